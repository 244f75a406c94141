/- A part. -/
import Derived.Test.YtpddoeiakpbkbaaGreatLo0
import Derived.AtR
import Derived.RangeFuncRecord
import Derived.RangeFuncNested
set_option maxRecDepth 99999
set_option maxHeartbeats 0
set_option linter.unusedVariables false
set_option linter.unusedSimpArgs false
noncomputable section
namespace Go.Am
open IntKind (wrap)
section
variable {P:Program} {ρ:B6}
structure Wx (floor:Nat) (st st':St):Prop where
 nxt:st.next<=st'.next
 bd:(∀b,st.next<=b->Yr st.mem b=none)-> ∀b,st'.next<=b->Yr st'.mem b=none
 low:floor<=st.next-> ∀b,b<floor->Yr st'.mem b=Yr st.mem b
 ob:st'.ob=true->st.ob=true
theorem Wx.refl (floor:Nat) (st:St):Wx floor st st:=⟨Aq _,fun h=>h,fun _ _ _=>rfl,fun h=>h⟩
theorem Wx.trans {floor:Nat} {a b c:St} (h:Wx floor a b) (k:Wx floor b c):Wx floor a c:=
 ⟨AF h.nxt k.nxt,fun x=>k.bd (h.bd x),fun x d hd=>(k.low (AF x h.nxt) d hd).trans (h.low x d hd),fun x=>h.ob (k.ob x)⟩
theorem Wx.write {floor:Nat} (st:St) {b:Nat} {ab:CG} (o:Option CG) (hf:floor<=b) (hm:Yr st.mem b=some ab):Wx floor st (st.withMem (Wb st.mem b o)) where
 nxt:=Aq _
 bd h k hk:=by
  have hne:k≠b:=fun e=>by rw [e,] at hk;rw [h b hk] at hm;cases hm
  show Yr (Wb st.mem b o) k=none;rw [Zu _ _ hne];exact h k hk
 low _ k hk:=Zu _ _ (by omega)
 ob h:=h
theorem Wx.new {floor:Nat} (st:St) (cs:List B2) (ty:TypeId):Wx floor st (DU st cs ty) where
 nxt:=B0 _
 bd h k hk:=by
  have hk':st.next+1<=k:=hk
  show Yr (Wb st.mem st.next _) k=none
  grind [Zu]
 low hf k hk:=Zu _ _ (by omega)
 ob h:=h
def FG (R:CC):Prop:= ∀cx todo st st',R cx todo st=some st'->Wx cx.floor st st'
theorem Wv {cx:CL} {st st':St} {b:Bool} (h:st.owe cx b=some st'):st'.env=st.env/\st'.mem=st.mem/\st'.next=st.next/\(st'.ob=true->b=true/\st.ob=true):=by
 obtain ⟨env,mem,next,orc,ob⟩:=st
 grind [St.owe]
theorem y7a {st st':St} {b e:Bool} (h:st.test b=(e,st')):st'.env=st.env/\st'.mem=st.mem/\st'.next=st.next/\(st'.ob=true->e=b/\st.ob=true):=by
 obtain ⟨env,mem,next,orc,ob⟩:=st;cases orc with
 | nil=>
  grind [St.test]
 | cons c r=>
  grind [St.test]
theorem Vg {cx:CL} {st st':St} {dst:Option Tmp} {v:B2} (h:st.put cx dst v=some st'):st'.mem=st.mem/\st'.next=st.next/\st'.ob=st.ob/\
  ((dst=none/\st'.env=st.env)\/ ∃d,dst=some d/\d<cx.n/\st'.env=T.set .undef st.env d v):=by
 obtain ⟨env,mem,next,orc,ob⟩:=st;cases dst with
 | none=>
  grind [St.put]
 | some d=>
  simp only [St.put] at h;cases hb:Nat.ble (d+1) cx.n with
  | false=>grind
  | true=>rw [hb,Ab] at h;obtain rfl:=Ag h;exact ⟨rfl,rfl,rfl,.inr ⟨d,rfl,Ak hb,rfl⟩⟩
theorem Wx.same {floor:Nat} {st st':St} (hm:st'.mem=st.mem) (hn:st'.next=st.next) (ho:st'.ob=true->st.ob=true):Wx floor st st':=
 ⟨by grind,fun h b hb=>by grind,fun _ b _=>by rw [hm],ho⟩
theorem Yw {α:Type} {c:Bool} {x:Option α} {y:α} (h:(bif c then x else none)=some y):c=true/\x=some y:=by grind
theorem Ky {α:Type} {c:Bool} {x z:Option α} {y:α} (h:(bif c then x else z)=some y):(c=true/\x=some y)\/(c=false/\z=some y):=by grind
theorem v4u {floor:Nat} {st st':St} {t:TypeId} {x v:B2} (h:Nc P floor st t x v=some st'):Wx floor st st'/\st'.env=st.env:=by
 unfold Nc at h;split at h
 .obtain ⟨hc,h⟩:=Yw h;simp only [Ae] at hc;split at h
  .rename_i blk hm;obtain ⟨_,h⟩:=Yw h;obtain rfl:=Ag h;exact ⟨Wx.write st _ (Ak hc.1.1.1) hm,rfl⟩
  .cases h
 .cases h
theorem w6h {cx:CL} {st st':St} {t:TypeId} {x v:B2} (h:NF P cx st t x v=some st'):Wx cx.floor st st'/\st'.env=st.env:=by
 unfold NF at h;split at h
 .obtain ⟨hc,h⟩:=Yw h;simp only [Ae] at hc;split at h
  .rename_i blk hm;split at h
   .split at h
    .rename_i rw1 st1 fM;obtain ⟨s1,s2,s3,s4⟩:=z8f fM;obtain ⟨o1,o2,o3,o4⟩:=Wv h;have a1:Wx cx.floor st st1:=Wx.same s2 s3 fun x=>(s4 x).2;exact ⟨(a1.trans (Wx.write st1 _ (Ak hc.1.1.1.1) (by rw [s2];exact hm))).trans (Wx.same o2 o3 fun x=>(o4 x).2),o1.trans s1⟩
    .cases h
   .cases h
  .cases h
 .cases h
theorem x0c {st st':St} {t:TypeId} {len:Nat} {ps:List (Nat×B2)} {v:B2} {un:Bool} (floor:Nat) (h:Ks P un st t len ps=some (v,st')):Wx floor st st'/\st'.env=st.env:=by
 unfold Ks at h;split at h
 .split at h
  .obtain ⟨_,h⟩:=Yw h;split at h
   .simp only [Ad,Ac] at h;obtain ⟨_,rfl⟩:=h;exact ⟨Wx.new st _ _,rfl⟩
   .cases h
  .cases h
 .cases h
theorem z7y {st st':St} {t:TypeId} {x y v:B2} (floor:Nat) (h:Jj P st t x y=some (v,st')):Wx floor st st'/\st'.env=st.env:=by
 unfold Jj at h;split at h
 .split at h
  .obtain ⟨_,h⟩:=Yw h;simp only [Ad,Ac] at h;obtain ⟨_,rfl⟩:=h;exact ⟨Wx.new st _ _,rfl⟩
  .cases h
 .cases h
theorem w6q {floor:Nat} {st st':St} {ts:List TypeId} {xs:List B2} {v:B2} (h:G0 P floor st ts xs=some (v,st')):Wx floor st st'/\st'.env=st.env:=by
 unfold G0 at h;split at h
 .split at h
  .split at h
   .split at h
    .obtain ⟨_,h⟩:=Yw h;split at h
     .rcases Ky h with ⟨_,h⟩ | ⟨_,h⟩
      .grind [Wx.refl]
      .obtain ⟨_,h⟩:=Yw h;simp only [Ad,Ac] at h;obtain ⟨_,rfl⟩:=h;exact ⟨Wx.new st _ _,rfl⟩
     .split at h
      .rename_i blk hm;split at h
       .obtain ⟨_,h⟩:=Yw h;split at h
        .rcases Ky h with ⟨_,h⟩ | ⟨_,h⟩
         .obtain ⟨hc,h⟩:=Yw h;simp only [Ae] at hc;simp only [Ad,Ac] at h;obtain ⟨_,rfl⟩:=h;exact ⟨Wx.write st _ (Ak hc.1) hm,rfl⟩
         .simp only [Ad,Ac] at h;obtain ⟨_,rfl⟩:=h;exact ⟨Wx.new st _ _,rfl⟩
        .obtain ⟨hc,h⟩:=Yw h;simp only [Ae] at hc;have hf:=Ak hc.2;rcases Ky h with ⟨_,h⟩ | ⟨_,h⟩
         .simp only [Ad,Ac] at h;obtain ⟨_,rfl⟩:=h;exact ⟨Wx.write st _ hf hm,rfl⟩
         .obtain ⟨_,h⟩:=Yw h;simp only [Ad,Ac] at h;obtain ⟨_,rfl⟩:=h;exact ⟨(Wx.write st none hf hm).trans (Wx.new _ _ _),rfl⟩
       .cases h
      .cases h
     .cases h
    .cases h
   .cases h
  .cases h
 .cases h
theorem Wx.put {floor:Nat} (st:St) (cs:Option CG) {st':St} (hm:st'.mem=Wb st.mem st.next cs) (hn:st'.next=st.next+1) (ho:st'.ob=true->st.ob=true):Wx floor st st' where
 nxt:=by grind
 bd h k hk:=by
  grind [Zu]
 low hf k hk:=by grind [Zu]
 ob:=ho
theorem y9w {cx:CL} {st st':St} {t:TypeId} {x y v:B2} (h:Kr P cx st t x y=some (v,st')):Wx cx.floor st st'/\st'.env=st.env:=by
 unfold Kr at h;split at h
 .split at h
  .obtain ⟨_,h⟩:=Yw h;simp only [An,Ac] at h;obtain ⟨_,h1,_,rfl⟩:=h;obtain ⟨o1,o2,o3,o4⟩:=Wv h1;exact ⟨Wx.put st _ o2 (o3.trans rfl) fun x=>(o4 x).2,o1⟩
  .cases h
 .cases h
theorem x9g {cx:CL} {st st':St} {ts:List TypeId} {xs:List B2} {v:B2} (h:N1 P cx st ts xs=some (v,st')):Wx cx.floor st st'/\st'.env=st.env:=by
 unfold N1 at h;split at h
 .split at h
  .split at h
   .cases h
   .split at h
    .split at h
     .rename_i hm;split at h
      .obtain ⟨hc,h⟩:=Yw h;simp only [Ae] at hc;simp only [An,Ac] at h;obtain ⟨_,h1,_,rfl⟩:=h;obtain ⟨o1,o2,o3,o4⟩:=Wv h1;exact ⟨(Wx.write st none (Ak hc.1.2) hm).trans (Wx.put (st.withMem _) _ o2 (o3.trans rfl) fun x=>(o4 x).2),o1⟩
      .cases h
     .cases h
    .cases h
  .cases h
 .cases h
theorem u8p {floor:Nat} {st:St} {sz len:Nat} {x:B2} {b:Option Nat} {get:Nat->List B2} {o:Bool} (ht:SO st.mem sz x=some (b,len,get,o)) (hf:u1f floor b=true):Wx floor st (st.withMem (OD st.mem b)):=by
 cases b with
 | none=>exact Wx.refl _ _
 | some b=>
  have hm: ∃ab,Yr st.mem b=some ab:=by
   unfold SO at ht
   grind
  obtain ⟨ab,hm⟩:=hm;exact Wx.write st none (Ak hf) hm
theorem x9f {cx:CL} {st st':St} {ts:List TypeId} {xs:List B2} {v:B2} (h:H3 P cx st ts xs=some (v,st')):Wx cx.floor st st'/\st'.env=st.env:=by
 unfold H3 at h;split at h
 .split at h
  .split at h
   .split at h
    .rename_i ht _;obtain ⟨hc,h⟩:=Yw h;simp only [Ae] at hc;simp only [An,Ac] at h;obtain ⟨_,h1,_,rfl⟩:=h;obtain ⟨o1,o2,o3,o4⟩:=Wv h1;exact ⟨(u8p ht hc.2).trans (Wx.put (st.withMem _) _ o2 (o3.trans rfl) fun x=>(o4 x).2),o1⟩
    .cases h
   .cases h
  .cases h
 .cases h
theorem x9h {cx:CL} {st st':St} {ts:List TypeId} {xs:List B2} {v:B2} (h:J0 P cx st ts xs=some (v,st')):Wx cx.floor st st'/\st'.env=st.env:=by unfold J0 at h;rcases Ky h with ⟨_,h⟩ | ⟨_,h⟩;all_goals grind [x9f,x9g,w6q]
theorem u3k {floor:Nat} {st st':St} {ts:List TypeId} {xs:List B2} {v:B2} (h:Nu P floor st ts xs=some (v,st')):Wx floor st st'/\st'.env=st.env:=by
 unfold Nu at h;split at h
 .split at h
  .split at h
   .split at h
    .obtain ⟨_,h⟩:=Yw h;split at h
     .grind [Wx.refl]
     .obtain ⟨_,h⟩:=Yw h
      grind [Wx.refl]
     .dsimp only at h;split at h
      .rename_i blk hm;obtain ⟨hc,h⟩:=Yw h;simp only [Ae] at hc;simp only [Ad,Ac] at h;obtain ⟨_,rfl⟩:=h;exact ⟨Wx.write st _ (Ak hc.1) hm,rfl⟩
      .cases h
     .cases h
    .cases h
   .cases h
  .cases h
 .cases h
theorem v4z {floor:Nat} {st st':St} {ts:List TypeId} {xs:List B2} {v:B2} (h:Nt P floor st ts xs=some (v,st')):Wx floor st st'/\st'.env=st.env:=by
 unfold Nt at h;split at h
 .split at h
  .split at h
   .split at h
    .grind [Wx.refl]
    .rcases Ky h with ⟨_,h⟩ | ⟨_,h⟩
     .grind [Wx.refl]
     .obtain ⟨hc,h⟩:=Yw h;simp only [Ae] at hc;split at h
      .rename_i blk hm;obtain ⟨_,h⟩:=Yw h;simp only [Ad,Ac] at h;obtain ⟨_,rfl⟩:=h;exact ⟨Wx.write st _ (Ak hc.2) hm,rfl⟩
      .cases h
    .cases h
   .cases h
  .cases h
 .cases h
theorem x9c {S:B4} {R:CC} (hR:FG R) {lift:Bool} {f:FuncId} {args:List B2} {cx:CL} {st st':St} {v:B2} (h:TH P S R lift f args cx st=some (v,st')):
  (Wx cx.floor st st'/\(lift=true-> ∀b,b<st.next->Ip S f args≠some b->Yr st'.mem b=Yr st.mem b))/\st'.env=st.env:=by
 unfold TH at h;split at h
 .rcases Ky h with ⟨_,h⟩ | ⟨_,h⟩
  .split at h
   .obtain ⟨_,h⟩:=Yw h;simp only [An,Ac] at h
    grind [Wv,Wx.same]
   .cases h
  .split at h;split at h
   .obtain ⟨_,h⟩:=Yw h;simp only [An,Ac] at h
    grind [Wv,Wx.same]
   .cases h
 .split at h
  .rename_i v0 b blk o _;split at h
   .rename_i ab hm;obtain ⟨hc,h⟩:=Yw h;simp only [Ae,BI] at hc;simp only [An,Ac] at h;obtain ⟨st1,h1,_,rfl⟩:=h;obtain ⟨e1,e2,e3,e4⟩:=Wv h1;exact ⟨⟨(Wx.write st (some blk) (Ak hc.2) hm).trans (Wx.same e2 e3 fun x=>(e4 x).2),fun hl=>by grind⟩,e1⟩
   .cases h
  .cases h
 .rename_i ty0 F hF;split at h
  .rename_i b sz n sz' r;split at h
   .rename_i cells ty A hm;obtain ⟨hc,h⟩:=Yw h;simp only [Ae] at hc;split at h
    .rename_i n' g o _;simp only [An,Ac] at h;obtain ⟨st1,h1,_,rfl⟩:=h;obtain ⟨env,mem,next,orc,ob⟩:=st;simp only at h1 hm ⊢;obtain ⟨e1,e2,e3,e4⟩:=Wv h1;simp only at e1 e2 e3 e4;have hle:=Ak hc.2.2.1;refine ⟨⟨⟨?_,fun hb k hk=> ?_,fun hf k hk=> ?_,fun x=>(e4 x).2⟩,fun _ k hk hn=> ?_⟩,e1⟩;all_goals grind [Zu,Ip]
    .cases h
   .cases h
  .cases h
 .split at h
  .split at h
   .split at h
    .rename_i st2 hr;split at h
     .simp only [Ad,Ac] at h;obtain ⟨_,rfl⟩:=h;have q:=hR _ _ _ _ hr;refine ⟨?_,rfl⟩;cases lift with
      | false=>exact ⟨⟨q.nxt,q.bd,q.low,q.ob⟩,fun x=>by cases x⟩
      | true=>refine ⟨⟨q.nxt,q.bd,fun hf b hb=>q.low (Aq _) b (A0 hb hf),q.ob⟩,fun _ b hb _=>q.low (Aq _) b hb⟩
     .cases h
    .cases h
   .cases h
  .cases h
theorem v4w {cx:CL} {st st':St} {ts:List TypeId} {b sz off len:Nat} {x v:B2} (h:KB P cx st ts b sz off len x=some (v,st')):Wx cx.floor st st'/\st'.env=st.env:=by
 unfold KB at h;split at h
 .split at h
  .split at h
   .rename_i hm;split at h
    .obtain ⟨hc,h⟩:=Yw h;simp only [Ae] at hc;simp only [An,Ac] at h;obtain ⟨_,h1,_,rfl⟩:=h;obtain ⟨o1,o2,o3,o4⟩:=Wv h1;exact ⟨(Wx.write st _ (Ak hc.1) hm).trans (Wx.same o2 o3 fun x=>(o4 x).2),o1⟩
    .cases h
   .cases h
  .cases h
 .cases h
theorem v4x {cx:CL} {st st':St} {ts:List TypeId} {xs:List B2} {v:B2} (h:Sm P cx st ts xs=some (v,st')):Wx cx.floor st st'/\st'.env=st.env:=by
 unfold Sm at h
 grind [v4w,u3k]
theorem y9z {S:B4} {R:CC} (hR:FG R) {lift:Bool} {op:Op} {cx:CL} {st st':St} {v:B2} (h:Vj P S R lift op cx st=some (v,st')):Wx cx.floor st st'/\st'.env=st.env:=by
 unfold Vj at h;split at h
 .split at h
  .rename_i hl;obtain ⟨l1,l2,l3,l4⟩:=XT hl;simp only [An,Ac] at h
   grind [Wv,Wx.same]
  .cases h
 .simp only [An,Ac] at h;obtain ⟨_,_,_,rfl⟩:=h;exact ⟨Wx.new st _ _,rfl⟩
 .obtain ⟨_,h⟩:=Yw h;simp only [Ad,Ac] at h;obtain ⟨_,rfl⟩:=h;exact ⟨Wx.new st _ _,rfl⟩
 .exact x0c _ h
 .split at h
  .simp only [An,Ac] at h
   grind [w6h]
  .simp only [An,Ac] at h
   grind [v4u]
 .rcases Ky h with ⟨_,h⟩ | ⟨_,h⟩
  .rcases Ky h with ⟨_,h⟩ | ⟨_,h⟩
   .have q:=z7y (st:=st.dropO) cx.floor h;exact ⟨⟨q.1.nxt,q.1.bd,q.1.low,q.1.ob⟩,q.2⟩
   .have q:=y9w (st:=st.dropO) h;exact ⟨⟨q.1.nxt,q.1.bd,q.1.low,q.1.ob⟩,q.2⟩
  .exact z7y _ h
 all_goals grind [x9h,v4x,v4z,x9c]
def Dw (x:Nat) (st st':St):Prop:=Yr st'.mem x=Yr st.mem x
theorem Qz {x b:Nat} (st:St) (o:Option CG) (hn:b≠x):Dw x st (st.withMem (Wb st.mem b o)):=Zu _ _ fun e=>hn e.symm
theorem SK {x:Nat} (st:St) (cs:List B2) (ty:TypeId) (hx:x<st.next):Dw x st (DU st cs ty):=Zu _ _ (BK hx)
theorem w6g {x:Nat} {floor:Nat} {st st':St} {t:TypeId} {a v:B2} (h:Nc P floor st t a v=some st') (hn: ∀off,a≠ .ptr x off):Dw x st st':=by
 unfold Nc at h;split at h
 .rename_i b off _ _;obtain ⟨_,h⟩:=Yw h;split at h
  .obtain ⟨_,h⟩:=Yw h
   grind [Qz]
  .cases h
 .cases h
theorem x8w {x:Nat} {cx:CL} {st st':St} {t:TypeId} {a v:B2} (h:NF P cx st t a v=some st') (hn: ∀sz r fo,a≠ .epa x sz r fo):Dw x st st':=by
 unfold NF at h;split at h
 .rename_i b sz r fo _ _;obtain ⟨_,h⟩:=Yw h;split at h
  .split at h
   .split at h
    .rename_i rw1 st1 fM;obtain ⟨_,s2,_,_⟩:=z8f fM;obtain ⟨_,o2,_,_⟩:=Wv h;unfold Dw;rw [o2,<-s2];exact Qz st1 _ fun e=>hn sz r fo (by rw [e])
    .cases h
   .cases h
  .cases h
 .cases h
theorem y4k {x:Nat} {st st':St} {t:TypeId} {len:Nat} {ps:List (Nat×B2)} {v:B2} {un:Bool} (hx:x<st.next) (h:Ks P un st t len ps=some (v,st')):Dw x st st':=by
 unfold Ks at h;split at h
 .split at h
  .obtain ⟨_,h⟩:=Yw h
   grind [SK]
  .cases h
 .cases h
theorem z6u {x:Nat} {st st':St} {t:TypeId} {l c v:B2} (hx:x<st.next) (h:Jj P st t l c=some (v,st')):Dw x st st':=by
 unfold Jj at h;split at h
 .split at h
  .obtain ⟨_,h⟩:=Yw h
   grind [SK]
  .cases h
 .cases h
theorem x9e {x floor:Nat} {st st':St} {ts:List TypeId} {xs:List B2} {v:B2} (hx:x<st.next) (h:G0 P floor st ts xs=some (v,st')) (hn: ∀off len cap r,xs≠ .sl x off len cap::r):Dw x st st':=by
 unfold G0 at h;split at h
 .split at h
  .split at h
   .split at h
    .obtain ⟨_,h⟩:=Yw h;split at h
     .rcases Ky h with ⟨_,h⟩ | ⟨_,h⟩
      .simp only [Ad,Ac] at h;obtain ⟨_,rfl⟩:=h;rfl
      .obtain ⟨_,h⟩:=Yw h
       grind [SK]
     .have hb:=fun e=>hn _ _ _ _ (AR (fun b=>B2.sl b _ _ _::_) e);split at h
      .rename_i blk hm;split at h
       .obtain ⟨_,h⟩:=Yw h;split at h
        .rcases Ky h with ⟨_,h⟩ | ⟨_,h⟩
         .obtain ⟨hc,h⟩:=Yw h
          grind [Qz]
         grind [SK]
        .obtain ⟨hc,h⟩:=Yw h;rcases Ky h with ⟨_,h⟩ | ⟨_,h⟩
         .grind [Qz]
         .obtain ⟨_,h⟩:=Yw h;simp only [Ad,Ac] at h;obtain ⟨_,rfl⟩:=h;exact (SK (st.withMem (Wb st.mem _ none)) _ _ hx).trans (Qz st none hb)
       .cases h
      .cases h
     .cases h
    .cases h
   .cases h
  .cases h
 .cases h
theorem y4h {x:Nat} {cx:CL} {st st':St} {t:TypeId} {l c v:B2} (hx:x<st.next) (h:Kr P cx st t l c=some (v,st')):Dw x st st':=by
 unfold Kr at h;split at h
 .split at h
  .obtain ⟨_,h⟩:=Yw h;simp only [An,Ac] at h;obtain ⟨_,h1,_,rfl⟩:=h;obtain ⟨_,o2,_,_⟩:=Wv h1
   grind [Dw,Zu]
  .cases h
 .cases h
theorem x6g {x:Nat} {cx:CL} {st st':St} {ts:List TypeId} {xs:List B2} {v:B2} (hx:x<st.next) (h:N1 P cx st ts xs=some (v,st')) (hn: ∀sz off len cap r,xs≠ .sla x sz off len cap::r):Dw x st st':=by
 unfold N1 at h;split at h
 .have hb:=fun e=>hn _ _ _ _ _ (AR (fun b=>B2.sla b _ _ _ _::_) e);split at h
  .split at h
   .cases h
   .split at h
    .split at h
     .split at h
      .obtain ⟨hc,h⟩:=Yw h;simp only [An,Ac] at h;obtain ⟨_,h1,_,rfl⟩:=h;obtain ⟨_,o2,_,_⟩:=Wv h1
       grind [Dw,Zu]
      .cases h
     .cases h
    .cases h
  .cases h
 .cases h
theorem x0h {m:CD} {sz len b:Nat} {x:B2} {get:Nat->List B2} {o:Bool} (ht:SO m sz x=some (some b,len,get,o)):(∃off len cap,x=.sl b off len cap)\/ ∃sz off len cap,x=.sla b sz off len cap:=by
 unfold SO at ht
 grind
theorem x6f {x:Nat} {cx:CL} {st st':St} {ts:List TypeId} {xs:List B2} {v:B2} (hx:x<st.next) (h:H3 P cx st ts xs=some (v,st')) (hn: ∀off len cap r,xs≠ .sl x off len cap::r) (hn2: ∀sz off len cap r,xs≠ .sla x sz off len cap::r):Dw x st st':=by
 unfold H3 at h;split at h
 .split at h
  .split at h
   .split at h
    .rename_i b len get o1 n g o2 ht _;obtain ⟨hc,h⟩:=Yw h;simp only [An,Ac] at h;obtain ⟨_,h1,_,rfl⟩:=h;obtain ⟨_,o2,_,_⟩:=Wv h1;unfold Dw;rw [o2];show Yr (Wb (OD st.mem b) st.next _) x=_;rw [Zu _ _ (BK hx)];cases b with
     | none=>rfl
     | some b=>
      refine Zu _ _ fun e=> ?_
      grind [x0h]
    .cases h
   .cases h
  .cases h
 .cases h
theorem x6h {x:Nat} {cx:CL} {st st':St} {ts:List TypeId} {xs:List B2} {v:B2} (hx:x<st.next) (h:J0 P cx st ts xs=some (v,st')) (hn: ∀off len cap r,xs≠ .sl x off len cap::r) (hn2: ∀sz off len cap r,xs≠ .sla x sz off len cap::r):Dw x st st':=by unfold J0 at h;rcases Ky h with ⟨_,h⟩ | ⟨_,h⟩;all_goals grind [x6f,x6g,x9e]
theorem v4v {x floor:Nat} {st st':St} {ts:List TypeId} {xs:List B2} {v:B2} (h:Nu P floor st ts xs=some (v,st')) (hn: ∀off len cap r,xs≠ .sl x off len cap::r):Dw x st st':=by
 unfold Nu at h;split at h
 .split at h
  .split at h
   .split at h
    .obtain ⟨_,h⟩:=Yw h;split at h
     .simp only [Ad,Ac] at h;obtain ⟨_,rfl⟩:=h;rfl
     .obtain ⟨_,h⟩:=Yw h;simp only [Ad,Ac] at h;obtain ⟨_,rfl⟩:=h;rfl
     .have hb:=fun e=>hn _ _ _ _ (AR (fun b=>B2.sl b _ _ _::_) e);dsimp only at h;split at h
      .obtain ⟨hc,h⟩:=Yw h
       grind [Qz]
      .cases h
     .cases h
    .cases h
   .cases h
  .cases h
 .cases h
theorem w6l {x:Nat} {cx:CL} {st st':St} {ts:List TypeId} {b sz off len:Nat} {y v:B2} (h:KB P cx st ts b sz off len y=some (v,st')) (hn:b≠x):Dw x st st':=by
 unfold KB at h;split at h
 .split at h
  .split at h
   .split at h
    .obtain ⟨_,h⟩:=Yw h;simp only [An,Ac] at h;obtain ⟨_,h1,_,rfl⟩:=h;obtain ⟨_,o2,_,_⟩:=Wv h1;show Yr _ x=_;rw [o2];exact Qz st _ hn
    .cases h
   .cases h
  .cases h
 .cases h
theorem w6m {x:Nat} {cx:CL} {st st':St} {ts:List TypeId} {xs:List B2} {v:B2} (h:Sm P cx st ts xs=some (v,st')) (hn: ∀off len cap r,xs≠ .sl x off len cap::r) (hn2: ∀sz off len cap r,xs≠ .sla x sz off len cap::r) (hn3: ∀sz off len r,xs≠ .slv x sz off len::r):Dw x st st':=by
 unfold Sm at h
 grind [w6l,v4v]
theorem w6o {x floor:Nat} {st st':St} {ts:List TypeId} {xs:List B2} {v:B2} (h:Nt P floor st ts xs=some (v,st')) (hn: ∀off len cap r,xs≠ .sl x off len cap::r):Dw x st st':=by
 unfold Nt at h;split at h
 .split at h
  .split at h
   .split at h
    .simp only [Ad,Ac] at h;obtain ⟨_,rfl⟩:=h;rfl
    .have hb:=fun e=>hn _ _ _ _ (AR (fun b=>B2.sl b _ _ _::_) e);rcases Ky h with ⟨_,h⟩ | ⟨_,h⟩
     .simp only [Ad,Ac] at h;obtain ⟨_,rfl⟩:=h;rfl
     .obtain ⟨hc,h⟩:=Yw h;split at h
      .obtain ⟨_,h⟩:=Yw h
       grind [Qz]
      .cases h
    .cases h
   .cases h
  .cases h
 .cases h
theorem x9a {S:B4} {R:CC} {lift:Bool} {op:Op} {cx:CL} {st st':St} {v:B2} {x:Nat} (hk:Xg op=.chain) (hx:x<st.next) (hn:EO op st.eval≠some x) (h:Vj P S R lift op cx st=some (v,st')):Dw x st st':=by
 cases op with
 | store t a y=>
  simp only [Vj] at h;split at h
  .rename_i b sz r fo hb;simp only [An,Ac] at h
   grind [x8w,EO]
  .simp only [An,Ac] at h
   grind [w6g,EO]
 | box t y=>
  unfold Vj at h;simp only at h;obtain ⟨_,h⟩:=Yw h
  grind [SK]
 | buildSlice t n ps=>exact y4k hx h
 | makeSlice t l c=>
  unfold Vj at h;simp only at h;rcases Ky h with ⟨_,h⟩ | ⟨_,h⟩
  .rcases Ky h with ⟨_,h⟩ | ⟨_,h⟩
   .exact (z6u (st:=st.dropO) hx h)
   .exact (y4h (st:=st.dropO) hx h)
  .exact z6u hx h
 | call c=>
  obtain ⟨callee,args,argTypes⟩:=c;cases callee with
  | builtin b=>
   cases b <;> first
    | (simp [Xg] at hk;done)
    | exact x6h hx h (fun off len cap r e=>hn (by simp only [EO,e])) (fun sz off len cap r e=>hn (by simp only [EO,e]))
    | exact w6m h (fun off len cap r e=>hn (by simp only [EO,e])) (fun sz off len cap r e=>hn (by simp only [EO,e])) (fun sz off len r e=>hn (by simp only [EO,e]))
    | exact w6o h fun off len cap r e=>hn (by simp only [EO,e])
  | value f=>simp [Xg] at hk
  | invoke r m=>simp [Xg] at hk
 | _=>simp [Xg] at hk
theorem Kv : ∀(d:Nat) (a:B2) (u:Value),pf d a=true->VRel ρ a u->VRel ρ.bare a u
 | 0,_,_,h,_=>by simp [pf] at h
 | d+1,a,u,h,hr=>by
  cases hr with
  | undef=>simp [pf] at h
  | bool=>exact .bool _
  | int=>exact .int _ _
  | str=>exact .str _
  | agg cs vs hl hh=>simp only [pf,At] at h;exact .agg cs vs hl fun i h1 h2=>Kv d _ _ (h _ (AV h1)) (hh i h1 h2)
  | tup cs vs hl hh=>simp only [pf,At] at h;exact .tup cs vs hl fun i h1 h2=>Kv d _ _ (h _ (AV h1)) (hh i h1 h2)
  | ptr=>simp [pf] at h
  | nilp=>exact .nilp
  | sl=>simp [pf] at h
  | sla=>simp [pf] at h
  | slan=>simp [pf] at h
  | slv=>simp [pf] at h
  | slve=>simp [pf] at h
  | slvn=>simp [pf] at h
  | nnl=>simp [pf] at h
  | epa=>simp [pf] at h
  | nils=>exact .nils
  | fn f cs vs hl hh=>obtain rfl:cs=[]:=List.isEmpty_iff.1 h;exact .fn f [] vs hl fun i h1=>absurd h1 (AL _)
  | nilf=>exact .nilf
  | fnb=>simp [pf] at h
  | yld=>simp [pf] at h
  | ifc=>simp [pf] at h
  | nili=>exact .nili
  | dat len get blk base sz cap val eC hsz hv hh=>exact .dat len get blk base sz cap val eC hsz hv hh
  | datn get=>exact .datn get
  | datz get a c=>exact .datz get a c
  | dptr cs blk base val hv hh=>exact .dptr cs blk base val hv hh
def WX (P:Program) (f:FuncId) (F:List B2->Option (B2×Bool)):Prop:=
 ∀args v,F args=some (v,true)-> ∀(H:GA) (vals:Array Value) (w:World),Vi (VRel (rhoOf H)) args vals.toList->(∀k o,H k=some o->w.heap[k]? =some o)->
  Calls P f vals w fun e w'=> ∃H' u,(∀k o,H k=some o->H' k=some o)/\(∀k o,H' k=some o->w'.heap[k]? =some o)/\(∀k,k<w.heap.size->H' k=H k)/\e=.returned u/\VRel (rhoOf H') v u/\RowKit.Below w.heap.size w w'
def KJ (P:Program) (f:FuncId) (F:List B2->CD->Option (B2×Nat×CG×Bool)):Prop:=
 ∀args mem v b blk,F args mem=some (v,b,blk,true)->(Yr mem b).isSome =true-> ∀(ρ:B6) (next floor:Nat) (vals:Array Value) (w:World),floor<=b->Vi (VRel ρ) args vals.toList->B7 ρ mem next w->
  Calls P f vals w fun e w'=> ∃u,e=.returned u/\VRel ρ v u/\B7 ρ (Wb mem b (some blk)) next w'/\Ev ρ ρ floor mem next (Wb mem b (some blk)) next w w'
def Mm (H:GA) (l:Option Ce):B6:=⟨fun b=>if b=0 then l else none,H,fun _=>none⟩
def Ft (ty:TypeId) (sz n:Nat) (get:Nat->List B2):CD:=Wb .leaf 0 (some ⟨Ya n get,ty,some ⟨sz,n,.flat get⟩⟩)
def NC (P:Program) (f:FuncId) (ty:TypeId) (F:Nat->(Nat->List B2)->List B2->Option (Nat×(Nat->List B2)×Bool)):Prop:=
 ∀ (sz n:Nat) (get:Nat->List B2) (r:List B2) (n':Nat) (g:Nat->List B2),F n get r=some (n',g,true)->MW sz n get=true->MW sz n' g=true->1<=sz-> ∀(H:GA) (l:Option Ce) (vals:Array Value) (w:World),
  Vi (VRel (Mm H l)) (.sla 0 sz 0 n (.un sz)::r) vals.toList->B7 (Mm H l) (Ft ty sz n get) 1 w->(∀k o,w.heap[k]? =some o->(∃l0,l=some l0/\l0.blk=k)\/H k=some o)->
  Calls P f vals w fun e w'=> ∃ρ' u m' nx b ty',e=.returned u/\VRel ρ' (.sla b sz 0 n' (.un sz)) u/\Yr m' b=some ⟨Ya n' g,ty',some ⟨sz,n',.flat g⟩⟩/\B7 ρ' m' nx w'/\
   (∀k o,H k=some o->ρ'.fz k=some o)/\w.heap.size<=w'.heap.size/\w'.os=w.os/\w'.tape=w.tape/\w'.output=w.output
def Rs (P:Program) (f:FuncId):Fy->Prop
 | .val F=>WX P f F
 | .eff F=>KJ P f F
 | .gro ty F=>NC P f ty F
def Zv (P:Program) (S:B4):Prop:=
 ∀f F,S f=some F->(∃fn,P.funcs[f]? =some fn/\fn.body.isSome=true)/\Rs P f F
def Ex (P:Program):Prop:= ∀(f:FuncId) (fn:Func),P.funcs[f]? =some fn->fn.body.isSome=true->(fn.name == "runtime.NumGoroutine")=false
def Gz (P:Program) (R:CC):Prop:=
 ∀ cx todo st st',cx.floor<=st.next->R cx todo st=some st'->st'.ob=true-> ∀(ρ:B6) (a:Act) (w:World) (b:Frame) (cs:List Frame),a.defers=[]->Vz ρ st.env cx.n a.tmps->B7 ρ st.mem st.next w->
  ∃ρ' a' todo' w',Steps P (lone (b.at a todo) cs w) (lone {b.at a' todo' with mode:=.returning} cs w')/\a'.defers=[]/\Vz ρ' st'.env cx.n a'.tmps/\B7 ρ' st'.mem st'.next w'/\
   Ev ρ ρ' cx.floor st.mem st.next st'.mem st'.next w w'
theorem y9j : ∀(args:List B2) (i:Nat) (t:T B2) (k:Nat),T.get .undef (Fb args i t) k=if i<=k/\k<i+args.length then args.getD (k - i) .undef else T.get .undef t k
 | [],i,t,k=>by rw [Aw (by grind)];rfl
 | a::r,i,t,k=>by
  simp only [Fb];rw [y9j r (i+1) _ k,T.get_set];by_cases h1:k=i
  .subst h1;rw [Aw (by omega),AG rfl,AG (by simp)];simp
  .by_cases h2:i+1<=k/\k<i+1+r.length
   .rw [AG h2,AG (by simp;omega)];have:k - i=(k - (i+1))+1:=(by omega);rw [this];simp
   .rw [Aw h2,Aw h1,Aw (by simp;omega)]
def U0 (tmps:Array Value):ResultVar->Sem Value
 | .tmp t=>pure (tmps.getD t undef)
 | .cell a t=>do loadVar t (<-asAddr (tmps.getD a undef))
theorem v2f (fn:Func) (tmps:Array Value):results fn tmps=(do
  let vs<-fn.results.mapM (U0 tmps)
  pure (if h:vs.size=1 then vs[0] else .tuple vs)):=by
 unfold results;have:(fun r:ResultVar=>(match r with | .tmp t=>pure (tmps.getD t undef) | .cell a t=>do loadVar t (<-asAddr (tmps.getD a undef)):Sem Value))=U0 tmps:=by
  funext r
  cases r <;> rfl
 rw [<-this];rfl
theorem x6a {st:St} {w:World} {tmps:Array Value} {n:Nat} (dY:Vz ρ st.env n tmps) (dU:B7 ρ st.mem st.next w) {r:ResultVar} {v:B2} (h:x6b P st r=some v):
  ∃u,VRel ρ v u/\(U0 tmps r).run P w=.ok u w:=by
 have get: ∀t,VRel ρ (st.tmp t) (tmps.getD t undef):=fun t=>dY.get t;cases r with
 | tmp t=>simp only [x6b,Ad] at h;subst h;exact ⟨_,get t,rfl⟩
 | cell a t=>
  simp only [x6b] at h;obtain ⟨z,hz,hr⟩:=y9x dU h (get a);refine ⟨z,hz,?_⟩;have ha:=get a;unfold U0;simp only;generalize tmps.getD a undef=u at ha hr ⊢;unfold Nv at h;split at h
  .rename_i e;rw [e] at ha;cases ha
   grind [Instr.loadAt,Instr.sureAddr,asAddr]
  .rename_i e;rw [e] at ha;cases ha
   grind [Instr.loadAt,Instr.sureAddr,asAddr]
  .cases h
theorem z7x {st:St} {w:World} {tmps:Array Value} {n:Nat} (dY:Vz ρ st.env n tmps) (dU:B7 ρ st.mem st.next w): ∀{rs:List ResultVar} {vs:List B2},Qb P st rs=some vs->
  ∃us,Vi (VRel ρ) vs us/\(rs.mapM (U0 tmps)).run P w=.ok us w
 | [],vs,h=>by simp only [Qb,Ad] at h;subst h;exact ⟨[],.nil,by simp⟩
 | r::rs,vs,h=>by
  unfold Qb at h;split at h
  .rename_i v vs' h1 h2;obtain rfl:=Ag h;obtain ⟨u,hu,hr⟩:=x6a dY dU h1;obtain ⟨us,hus,hrs⟩:=z7x dY dU h2;refine ⟨u::us,.cons hu hus,?_⟩;rw [List.mapM_cons,Sem.run_bind,hr];simp only [Result.andThen_ok,Sem.run_bind,hrs,Sem.run_pure]
  .cases h
theorem z4p {fn:Func} {st:St} {w:World} {tmps:Array Value} {n:Nat} (dY:Vz ρ st.env n tmps) (dU:B7 ρ st.mem st.next w) {vs:List B2} (h:Qb P st fn.results.toList=some vs):
  ∃u,VRel ρ (Ut vs) u/\(results fn tmps).run P w=.ok u w:=by
 obtain ⟨us,hus,hr⟩:=z7x dY dU h;refine ⟨if h:us.toArray.size=1 then us.toArray[0] else .tuple us.toArray,?_,?_⟩
 .cases hus with
  | nil=>exact .tup [] _ rfl fun i h1 _=>by simp at h1
  | cons h1 hs=>cases hs with
   | nil=>simpa [Ut] using h1
   | cons h2 hs=>have fF:=Vi.cons h1 (Vi.cons h2 hs);have hl:=fF.length;simp only [Ut];rw [dif_neg (by simp)];exact .tup _ _ (by grind) fun i h1 h2=>by simpa using fF.get i h1 (by grind)
 .rw [v2f,Sem.run_bind,Array.mapM_eq_mapM_toList,Sem.run_map,hr];rfl
theorem y9i {args:List B2} {vals:Array Value} (h:Vi (VRel ρ) args vals.toList) (ntmps:Nat):
  Vz ρ (Fb args 0 .leaf) (Nat.max ntmps args.length) (vals++Array.replicate (ntmps - vals.size) undef):=by
 have hl:args.length=vals.size:=by simpa using h.length
 have hmax:Nat.max ntmps args.length=vals.size+(ntmps - vals.size):=by
  grind
 refine ⟨by grind,fun i=> ?_,fun i hi=> ?_⟩
 .rw [y9j];by_cases hi:i<args.length
  .rw [AG (by omega)];have h2:i<vals.toList.length:=by grind
   have:=h.get i hi h2;have e1:args.getD (i - 0) .undef =args[i]:=by simp [hi]
   have e2:(vals++Array.replicate (ntmps - vals.size) undef).getD i undef=vals.toList[i]:=by have h3:i<vals.size:=(by grind);simp [Array.getElem?_append,h3]
   grind
  .rw [Aw (by omega)];exact .undef _
 .have hle:args.length<=Nat.max ntmps args.length:=Nat.le_max_right _ _;rw [y9j,Aw (by omega)];rfl
theorem To {f:FuncId} {fn:Func} (hN:Ex P) (hf:P.funcs[f]? =some fn) (hb:fn.body.isSome=true) (args:Array Value) (w:World):(callFunc f args).run P w=.ok (.enter f args) w:=by
 have h1: ¬fn.name= "runtime.NumGoroutine" :=by simpa using hN f fn hf hb
 have h2: ¬fn.body=none:=by grind
 simp [callFunc,hf,h1,h2]
theorem x9v {mem:CD} {next:Nat} {w:World} (h:B7 ρ mem next w) {a a':B2} {o:Bool} (hv:j7b mem a=(a',o)) (ho:o=true) {u:Value} (hr:VRel ρ a u) (hp:pf 3 a'=true):VRel (rhoOf fun k=>w.heap[k]?) a' u:=by
 subst ho;have hle:ρ.bare.le (rhoOf fun k=>w.heap[k]?):=⟨fun _ _ e=>(by cases e),fun k o e=>h.old k o e,fun _ _ e=>(by cases e)⟩
 unfold j7b at hv;split at hv
 .rename_i b sz off len cap;split at hv
  .rename_i blk hm;split at hv
   .rename_i A hA;simp only [Ac,Ae,Ar] at hv;obtain ⟨rfl,h1,h2,h3⟩:=hv;obtain rfl:=Aj h1;have h3:= @Az _ (Classical.propDecidable _) h3;cases hr with
    | slan=>exact .datn _
    | sla _ _ _ _ _ l c hρ eC dV=>
     obtain ⟨fG,fQ,eH⟩:=(h.blk b l blk hρ hm).arr A hA;obtain ⟨cur,el,hh,_⟩:=(h.blk b l blk hρ hm).cells;refine .dat len _ l.blk (l.base+off*A.sz) A.sz c (fun i j=>(w.cell? ⟨l.blk,l.base+(off+i)*A.sz+j,none⟩).getD undef) dV (fun i hi=>eH _ (by omega)) (fun i j hi hj=> ?_) (fun i j hi hj=> ?_)
     .obtain ⟨v,e1,e2⟩:=(h.rowAt hρ hm hA (r:=off+i) (by omega)) j hj;simp only [e1,Option.getD_some];exact (Kv 6 _ _ (At.1 (h3 (off+i)) _ (AV hj)) e2).mono hle
     .obtain ⟨v,e1,e2⟩:=(h.rowAt hρ hm hA (r:=off+i) (by omega)) j (by grind);simp only [e1,Option.getD_some];refine ⟨cur,el,(0,0),hh,?_⟩
      grind [World.cell?]
   grind [pf]
  grind [pf]
 .simp only [Ac] at hv;obtain ⟨rfl,_⟩:=hv;exact (Kv 3 _ _ hp hr).mono hle
theorem x9w {mem:CD} {next:Nat} {w:World} (h:B7 ρ mem next w) {az:List B2} {us:List Value} (hr:Vi (VRel ρ) az us): ∀{az':List B2} {o:Bool},VB mem az=(az',o)->o=true->az'.all (pf 3)=true->Vi (VRel (rhoOf fun k=>w.heap[k]?)) az' us:=by
 induction hr with
 | nil=>intro az' o hv _ _;simp only [VB,Ac] at hv;obtain ⟨rfl,_⟩:=hv;exact .nil
 | @cons a b l m h1 _ ih=>intro az' o hv ho hp;unfold VB at hv;split at hv;rename_i a1 o1 as1 q1 e1 e2;simp only [Ac] at hv;obtain ⟨rfl,rfl⟩:=hv;simp only [Ae] at ho;simp only [List.all_cons,Ae] at hp;exact .cons (x9v h e1 ho.1 h1 hp.1) (ih e2 ho.2 hp.2)
theorem v1j {σ:B6} {v:B2} {u:Value} (hs:scal v=true) (h:VRel σ v u):VRel ρ v u:=by
 cases h with
 | bool=>exact .bool _
 | int=>exact .int _ _
 | str=>exact .str _
 | tup cs vs hl hh=>
  simp only [scal,At] at hs;refine .tup cs vs hl fun i h1 h2=> ?_;have k1:=hs _ (AV h1);have k2:=hh i h1 h2;generalize cs[i]=a at k1 k2;generalize vs[i]=b at k2;cases k2 with
  | undef=>exact .undef _
  | bool=>exact .bool _
  | int=>exact .int _ _
  | str=>exact .str _
  | _=>simp at k1
 | _=>simp [scal] at hs
theorem u7o {sz n:Nat} {get:Nat->List B2} (h:MW sz n get=true): ∀i,i<n->(get i).length =sz/\(get i).all pl=true:= @Az _ (Classical.propDecidable _) h
theorem v7z {sz n:Nat} {get:Nat->List B2} (h:MW sz n get=true): ∀v∈Ya n get,pl v=true:=fun v hv=>by
 obtain ⟨i,hi,hv⟩:=AK.1 hv
 grind [u7o]
theorem PT {v:B2} {u:Value} {ρ':B6} (h:pl v=true) (hr:VRel ρ v u):VRel ρ' v u:=by cases hr <;> first | exact .bool _ | exact .int _ _ | (cases h;done)
theorem Jd.pl {w:World} {ab:CG} {l:Ce} (h:Jd ρ w ab l) (hp: ∀v∈ab.cells,pl v=true) (ρ':B6):Jd ρ' w ab l:=by
 obtain ⟨h1,h2,h3,cs,el,h4,h5,h6⟩:=h;refine ⟨h1,h2,h3,cs,el,h4,h5,fun i hi=> ?_⟩
 grind [PT]
theorem u1c {f:FuncId} {F:Nat->(Nat->List B2)->List B2->Option (Nat×(Nat->List B2)×Bool)} {ty:TypeId} (hF:NC P f ty F) {floor next:Nat} {mem:CD} {b sz n:Nat} {r:List B2} {cells:List B2} {A:GS} (hm:Yr mem b=some ⟨cells,ty,some A⟩)
  (hA:A.sz=sz/\A.n=n) (hr:r.all (pf 3)=true) (hfl:floor<=b) (hsz:1<=sz) {n':Nat} {g:Nat->List B2} (hv:F n A.get r=some (n',g,true)) (hp:MW sz n A.get=true) (hp':MW sz n' g=true)
  {vals:Array Value} (dX:Vi (VRel ρ) (.sla b sz 0 n (.un sz)::r) vals.toList) {w:World} (dU:B7 ρ mem next w):
  Calls P f vals w fun e w'=> ∃ρ' u,e=.returned u/\VRel ρ' (.sla next sz 0 n' (.un sz)) u/\B7 ρ' (Wb (Wb mem b none) next (some ⟨Ya n' g,ty,some ⟨sz,n',.flat g⟩⟩)) (next+1) w'/\
   Ev ρ ρ' floor mem next (Wb (Wb mem b none) next (some ⟨Ya n' g,ty,some ⟨sz,n',.flat g⟩⟩)) (next+1) w w':=by
 obtain ⟨rfl,rfl⟩:=hA;have hbn:b<next:=by
  rcases A7 b next with h | h
  .exact h
  .rw [dU.bd b h] at hm;cases hm
 let H:GA:=fun k=>if∃l,ρ b=some l/\l.blk=k then none else w.heap[k]?
 have hH: ∀k,(¬ ∃l,ρ b=some l/\l.blk=k)->H k=w.heap[k]? :=fun k hk=>Aw hk;have hHs: ∀k o,H k=some o->w.heap[k]? =some o/\ ¬ ∃l,ρ b=some l/\l.blk=k:=fun k o e=>by
  by_cases hk: ∃l,ρ b=some l/\l.blk=k;all_goals grind
 have hfz: ∀k o,ρ.fz k=some o->H k=some o:=fun k o e=>by
  rw [hH k fun ⟨l,h1,h2⟩=>by
   have:=dU.sep b l h1 (by rw [hm];rfl)
   grind]
  exact dU.old k o e
 have hbare:ρ.bare.le (Mm H (ρ b)):=⟨fun _ _ e=>(by cases e),hfz,fun _ _ e=>(by cases e)⟩
 have key: ∀(n0:Nat) (u:Value),VRel ρ (.sla b A.sz 0 n0 (.un A.sz)) u->VRel (Mm H (ρ b)) (.sla 0 A.sz 0 n0 (.un A.sz)) u:=fun n0 u h1=>by
  cases h1 with
  | sla _ _ _ _ _ l c h hc dV=>exact .sla 0 _ 0 _ _ l c (by show (if (0:Nat)=0 then ρ b else none)=_;grind) hc dV
  | slan _ _ _ _=>exact .slan _ _ _ _
 have hargs1:Vi (VRel (Mm H (ρ b))) (.sla 0 A.sz 0 A.n (.un A.sz)::r) vals.toList:=by
  generalize vals.toList=us at dX;cases dX with
  | cons h1 h2=>
   refine .cons ?_ ?_
   .grind
   .exact Vi.of h2.length fun i g1 g2=>(Kv 3 _ _ (At.1 hr _ (AV g1)) (h2.get i g1 g2)).mono hbare
 have hget0: ∀l,Mm H (ρ b) 0=some l↔ρ b=some l:=fun l=>Iff.rfl;have eY: ∀c l,Mm H (ρ b) c=some l->c=0/\ρ b=some l:=fun c l e=>by
  have e:(if c=0 then ρ b else none)=some l:=e
  grind
 have hm1:Yr (Ft ty A.sz A.n A.get) 0=some ⟨Ya A.n A.get,ty,some ⟨A.sz,A.n,.flat A.get⟩⟩:=Ym _ _ _;have eZ:B7 (Mm H (ρ b)) (Ft ty A.sz A.n A.get) 1 w:=by
  refine ⟨fun c l e=>by grind,fun c c' l l' e e' _ _ _=>by grind,fun c l ab e hc=> ?_,fun k o e=>(hHs k o e).1,fun c l e _=> ?_,fun c l e=>dU.real b l (eY c l e).2,fun c hc=> ?_,fun j l e=>by cases e⟩
  .obtain ⟨rfl,e2⟩:=eY c l e;rw [hm1] at hc;obtain rfl:=Ag hc;have q:=dU.blk b l _ e2 hm;obtain ⟨q1,q2,q3,cs,el,q4,q5,q6⟩:=q;obtain ⟨a1,a2,a3⟩:=q3 A rfl;simp only at a1;subst a1;have q':Jd ρ w ⟨Ya A.n A.get,ty,some ⟨A.sz,A.n,.flat A.get⟩⟩ l:=⟨q1,q2,fun B e=>by
    obtain rfl:=Ag e;exact ⟨rfl,a2,a3⟩,cs,el,q4,q5,q6⟩
   exact q'.pl (v7z hp) _
  .obtain ⟨_,e2⟩:=eY c l e;exact AG ⟨l,e2,rfl⟩
  .show Yr (Wb .leaf 0 _) c=none;rw [Zu _ _ (by omega)];rfl
 have fF: ∀k o,w.heap[k]? =some o->(∃l0,ρ b=some l0/\l0.blk=k)\/H k=some o:=fun k o e=>by
  grind
 refine (hF A.sz A.n A.get r n' g hv hp hp' hsz H (ρ b) vals w hargs1 eZ fF).mono fun e w' ⟨ρ1,u,m',nx,b1,ty',he,hu,hmb,hr1,hfz1,hsize,hos,htape,hout⟩=> ?_;have hgone: ∀k,(¬ ∃l,ρ b=some l/\l.blk=k)-> ∀o,w.heap[k]? =some o->w'.heap[k]? =some o/\ρ1.fz k=some o:=fun k hk o e=>by have h2:=hfz1 k o ((hH k hk).trans e);exact ⟨hr1.old k o h2,h2⟩
 let ρ':B6:=⟨fun c=>if c=next then ρ1 b1 else ρ c,ρ.fz,ρ.lp⟩
 have eD: ∀c l,ρ' c=some l->(c=next/\ρ1 b1=some l)\/(c≠next/\ρ c=some l):=fun c l e=>by
  grind
 have hnew:ρ' next=ρ1 b1:=AG rfl
 have holdc: ∀c,c<next->ρ' c=ρ c:=fun c hc=>Aw (by omega)
 have hle:ρ.le ρ':=⟨fun c l e=>by rw [holdc c (dU.dom c l e)];exact e,fun _ _ e=>e,fun _ _ e=>e⟩
 have hm': ∀c,c≠next->Yr (Wb (Wb mem b none) next (some ⟨Ya n' g,ty,some ⟨A.sz,n',.flat g⟩⟩)) c=if c=b then none else Yr mem c:=fun c hc=>by
  grind [Zu,Ym]
 have hmn:Yr (Wb (Wb mem b none) next (some ⟨Ya n' g,ty,some ⟨A.sz,n',.flat g⟩⟩)) next=some ⟨Ya n' g,ty,some ⟨A.sz,n',.flat g⟩⟩:=Ym _ _ _
 have hother: ∀c l,ρ c=some l->(Yr mem c).isSome =true->c≠b-> ¬ ∃l',ρ b=some l'/\l'.blk=l.blk:=fun c l e hs hcb ⟨l',e',hb⟩=>hcb (dU.inj c b l l' e e' hb.symm hs (by rw [hm];rfl));have gA: ∀c l,ρ c=some l-> ∃o,w.heap[l.blk]? =some o:=fun c l e=>⟨_,Bz (dU.real c l e)⟩
 have hsepn: ∀l,ρ1 b1=some l->ρ1.fz l.blk=none:=fun l e=>hr1.sep b1 l e (by rw [hmb];rfl);have eP:VRel ρ' (.sla next A.sz 0 n' (.un A.sz)) u:=by
  cases hu with
  | sla _ _ _ _ _ l c h hc dV=>exact .sla next _ 0 _ _ l c (hnew.trans h) hc dV
  | slan _ _ _ _=>exact .slan _ _ _ _
 refine ⟨ρ',u,he,eP,?_,?_⟩
 .refine ⟨fun c l e=> ?_,fun c c' l l' e e' hbl hs hs'=> ?_,fun c l ab e hc=> ?_,fun k o e=> ?_,fun c l e hs=> ?_,fun c l e=> ?_,fun c hc=> ?_,fun j l e=>Bl (dU.ldom j l e)⟩
  .rcases eD c l e with ⟨rfl,_⟩ | ⟨_,e⟩
   .omega
   .have:=dU.dom c l e;omega
  .have clash: ∀c l l',c≠next->ρ c=some l->ρ1 b1=some l'->l.blk=l'.blk->(Yr (Wb (Wb mem b none) next (some ⟨Ya n' g,ty,some ⟨A.sz,n',.flat g⟩⟩)) c).isSome =true->False:=fun c l l' hc e e' hbl hs=>by
    grind
   rcases eD c l e with ⟨h1,h2⟩ | ⟨h1,h2⟩ <;> rcases eD c' l' e' with ⟨h1',h2'⟩ | ⟨h1',h2'⟩
   .rw [h1,h1']
   .grind
   .grind
   .rw [hm' c h1] at hs;rw [hm' c' h1'] at hs';by_cases hcb:c=b
    .grind
    .by_cases hcb':c'=b
     .grind
     .rw [Aw hcb] at hs;rw [Aw hcb'] at hs';exact dU.inj c c' l l' h2 h2' hbl hs hs'
  .rcases eD c l e with ⟨h1,h2⟩ | ⟨h1,h2⟩
   .subst h1;rw [hmn] at hc;obtain rfl:=Ag hc;have q:=(hr1.blk b1 l _ h2 hmb).pl (v7z hp') ρ';exact ⟨q.n,q.tot,q.arr,q.cells⟩
   .rw [hm' c h1] at hc;by_cases hcb:c=b
    .grind
    .rw [Aw hcb] at hc;obtain ⟨o,ho⟩:=gA c l h2;refine (dU.blk c l ab h2 hc).world hle ?_;rw [(hgone l.blk (hother c l h2 (by rw [hc];rfl) hcb) o ho).1,ho]
  .have h1:=hfz k o e;obtain ⟨h2,h3⟩:=hHs k o h1;exact (hgone k h3 o h2).1
  .rcases eD c l e with ⟨h1,h2⟩ | ⟨h1,h2⟩
   .cases hq:ρ.fz l.blk with
    | none=>rfl
    | some o=>
     grind
   .rw [hm' c h1] at hs;by_cases hcb:c=b
    .grind
    .rw [Aw hcb] at hs;exact dU.sep c l h2 hs
  .rcases eD c l e with ⟨h1,h2⟩ | ⟨h1,h2⟩
   .exact hr1.real b1 l h2
   grind
  .rw [hm' c (by omega),Aw (by omega)];exact dU.bd c (by omega)
 .refine ⟨hle,fun c hc=>holdc c hc,by omega,fun c hc hn cs ty2 hq=> ?_,fun k o hk hn=> ?_,fun c l hc e=> ?_,hsize,hos,htape,hout,fun k _=>rfl⟩
  .grind
  .exact (hgone k (fun ⟨l,h1,h2⟩=>hn b l h1 hfl h2) o hk).1
  .rcases eD c l e with ⟨h1,h2⟩ | ⟨h1,h2⟩
   .rcases A7 l.blk w.heap.size with h | h
    .rcases fF l.blk _ (Bz h) with ⟨l0,h3,h4⟩ | h3;all_goals grind
    grind
   grind
theorem x0b {S:B4} {R:CC} (hS:Zv P S) (hR:Gz P R) {lift:Bool} {f:FuncId} {args:List B2} {cx:CL} {st st':St} {v:B2} (hcx:cx.floor<=st.next) (h:TH P S R lift f args cx st=some (v,st')) (hob:st'.ob=true)
  {vals:Array Value} (dX:Vi (VRel ρ) args vals.toList) {w:World} (dU:B7 ρ st.mem st.next w):
  (∃fn,P.funcs[f]? =some fn/\fn.body.isSome=true)/\Calls P f vals w fun e w'=> ∃ρ' u,e=.returned u/\EM ρ cx.floor st st' v w ρ' u w':=by
 unfold TH at h;split at h
 .rename_i F hF;rcases Ky h with ⟨hca,h⟩ | ⟨_,h⟩
  .split at h
   .rename_i v' b hFa;obtain ⟨hc2,h⟩:=Yw h;have hc1:=At.1 hca;simp only [An,Ac] at h;obtain ⟨st1,h1,rfl,rfl⟩:=h;obtain ⟨_,e2,e3,e4⟩:=Wv h1;obtain ⟨rfl,_⟩:=e4 hob;obtain ⟨hfn,eI⟩:=hS f _ hF;refine ⟨hfn,?_⟩;have hargs0:Vi (VRel ρ.bare) args vals.toList:=Vi.of dX.length fun i g1 g2=>Kv 3 _ _ (hc1 _ (AV g1)) (dX.get i g1 g2);refine (eI args v' hFa ρ.fz vals w hargs0 dU.old).mono fun e w' ⟨H',u,hle,hold,eL,he,hv,hb⟩=>⟨⟨ρ.f,H',ρ.lp⟩,u,he,VRel.mono (ρ:=rhoOf H') (ρ':=⟨ρ.f,H',ρ.lp⟩) ⟨fun _ _ e=>(by cases e),fun _ _ e=>e,fun _ _ e=>(by cases e)⟩ hv,?_,?_⟩
    .rw [e2,e3];have hle':ρ.le ⟨ρ.f,H',ρ.lp⟩:=⟨fun _ _ e=>e,hle,fun _ _ e=>e⟩
     exact ⟨dU.dom,dU.inj,fun b l ab q1 q2=>(dU.blk b l ab q1 q2).world hle' (hb.block _ (dU.real b l q1)),hold,fun b l q hs=>(eL _ (dU.real b l q)).trans (dU.sep b l q hs),fun b l q=>A0 (dU.real b l q) hb.size,dU.bd,dU.ldom⟩
    .rw [e2,e3];exact ⟨⟨fun _ _ e=>e,hle,fun _ _ e=>e⟩,fun _ _=>rfl,Aq _,fun _ _ _ _ _ h=>h,fun k o hk _=>by rw [hb.block k (AN.1 hk).1];exact hk,
      fun b l hb' hl=>by grind,hb.size,hb.os,hb.tape,hb.output,eL⟩
   .cases h
  .split at h;rename_i args' o hview;split at h
   .rename_i v' b hFa;obtain ⟨hc,h⟩:=Yw h;simp only [Ae] at hc;simp only [An,Ac] at h;obtain ⟨st1,h1,rfl,rfl⟩:=h;obtain ⟨_,e2,e3,e4⟩:=Wv h1;obtain ⟨hob1,_⟩:=e4 hob;simp only [Ae] at hob1;obtain ⟨ho,rfl⟩:=hob1;obtain ⟨hfn,eI⟩:=hS f _ hF;refine ⟨hfn,?_⟩;have hargs0:=x9w dU dX hview ho hc.1;refine (eI args' v' hFa (fun k=>w.heap[k]?) vals w hargs0 fun _ _ e=>e).mono fun e w' ⟨H',u,hle,hold,eL,he,hv,hb⟩=>⟨ρ,u,he,v1j hc.2 hv,?_,?_⟩
    .rw [e2,e3];exact ⟨dU.dom,dU.inj,fun b l ab q1 q2=>(dU.blk b l ab q1 q2).world (B6.le_refl _) (hb.block _ (dU.real b l q1)),fun k o q=>by rw [hb.block k (AN.1 (dU.old k o q)).1];exact dU.old k o q,dU.sep,fun b l q=>A0 (dU.real b l q) hb.size,dU.bd,dU.ldom⟩
    .rw [e2,e3];exact ⟨B6.le_refl _,fun _ _=>rfl,Aq _,fun _ _ _ _ _ h=>h,fun k o hk _=>by grind,
      fun b l hb' hl=>by grind,hb.size,hb.os,hb.tape,hb.output,fun _ _=>rfl⟩
   .cases h
 .rename_i F hF;split at h
  .rename_i v0 b blk o hFa;split at h
   .rename_i ab hm;obtain ⟨hc,h⟩:=Yw h;simp only [Ae] at hc;simp only [An,Ac] at h;obtain ⟨st1,h1,rfl,rfl⟩:=h;obtain ⟨_,e2,e3,e4⟩:=Wv h1;obtain ⟨rfl,_⟩:=e4 hob;obtain ⟨hfn,eI⟩:=hS f _ hF;refine ⟨hfn,?_⟩;refine (eI args st.mem v0 b blk hFa (by rw [hm];rfl) ρ st.next cx.floor vals w (Ak hc.2) dX dU).mono fun e w' ⟨u,he,hv,hr,hev⟩=>⟨ρ,u,he,hv,?_,?_⟩
    .rw [e2,e3];exact hr
    .rw [e2,e3];exact hev
   .cases h
  .cases h
 .rename_i ty0 F hF;split at h
  .rename_i b sz n sz' r;split at h
   .rename_i cells ty A hm;obtain ⟨hc,h⟩:=Yw h;simp only [Ae] at hc;obtain ⟨⟨c0,c1,c2⟩,c4,c5,c6⟩:=hc;have c0:=Aj c0;split at h
    .rename_i n' g o hFa;simp only [An,Ac] at h;obtain ⟨st1,h1,rfl,rfl⟩:=h;obtain ⟨env,mem,next,orc,ob⟩:=st;simp only at h1 hm hcx dU ⊢;obtain ⟨_,e2,e3,e4⟩:=Wv h1;obtain ⟨hob1,_⟩:=e4 hob;simp only [Ae] at hob1;obtain ⟨rfl,c3,hp,hp'⟩:=hob1;obtain ⟨hfn,eI⟩:=hS f _ hF;rw [<-c0] at eI;obtain rfl:=Aj c1;refine ⟨hfn,?_⟩;refine (u1c eI hm ⟨Aj c2,Aj c3⟩ c4 (Ak c5) (Ak c6) hFa hp hp' dX dU).mono fun e w' ⟨ρ',u,he,hv,hr,hev⟩=>⟨ρ',u,he,hv,?_,?_⟩
     all_goals grind
    .cases h
   .cases h
  .cases h
 .split at h
  .rename_i fn hf;split at h
   .rename_i body hb;split at h
    .rename_i st2 hr;split at h
     .rename_i vs hvs;simp only [Ad,Ac] at h;obtain ⟨rfl,rfl⟩:=h;refine ⟨⟨fn,hf,by rw [hb];rfl⟩,?_⟩;intro cs
      let b:Frame:={(default:Frame) with fn:=f,kind:=.normal}
      have fT:Frame.enter P f vals .normal =b.at {tmps:=vals++Array.replicate (fn.ntmps - vals.size) undef,defers:=[]} [.code body]:=by simp [Frame.enter,Frame.at,hf,hb,b]
      obtain ⟨ρ',a',todo',w',eT,hd,dY,eV,hev⟩:=hR _ _ _ _ (by
       cases lift with
       | false=>exact hcx
       | true=>exact Aq _) hr hob ρ {tmps:=vals++Array.replicate (fn.ntmps - vals.size) undef,defers:=[]} w b cs rfl (y9i dX fn.ntmps) dU
      obtain ⟨u,hu,fX⟩:=z4p dY eV hvs;rw [<-fT] at eT;refine ⟨.returned u,w',_,⟨ρ',u,rfl,hu,eV,?_⟩,eT,rfl,rfl,hd,rfl,fn,hf,fX⟩;refine hev.lower ?_
      grind
     .cases h
    .cases h
   .cases h
  .cases h
theorem x6d {S:B4} {R:CC} (hN:Ex P) (hS:Zv P S) (hR:Gz P R) {lift:Bool} {o:Oper} {cx:CL} {st st':St} {v:B2} (hcx:cx.floor<=st.next)
  (h:Vj P S R lift o.op cx st=some (v,st')) (hob:st'.ob=true) {ev:Operand->B2} (hev: ∀x,x∈o.op.operands->ev x=st.eval x) {a:Act} (hr:E5 ρ ev a.eval o.op) {w:World} (dU:B7 ρ st.mem st.next w):
  JQ P o a w (EM ρ cx.floor st st' v w):=by
 obtain ⟨dst,op,type,pos,after,guard⟩:=o;simp only at h hr hev
 replace hr:E5 ρ st.eval a.eval op:=fun x hx=>by rw [<-hev x hx];exact hr x hx
 clear hev;unfold Vj at h;split at h
 .rename_i t x;split at h
  .rename_i v' b st0 hv;obtain ⟨l1,l2,l3,l4⟩:=XT hv;simp only [An,Ac] at h;obtain ⟨st1,h1,rfl,rfl⟩:=h;obtain ⟨e1,e2,e3,e4⟩:=Wv h1;obtain ⟨rfl,hob0⟩:=e4 hob;obtain ⟨z,hz,dW⟩:=y4a dU (l4 hob0).1 (hr x (by simp [Op.operands]));exact .inl ⟨ρ,z,w,by simp [execOp,dW],hz,by grind,by rw [e2,e3,l2,l3];exact Ev.refl _ _ _ _ _ dU.dom⟩
  .cases h
 .rename_i t;simp only [An,Ac] at h;obtain ⟨z,hz,rfl,rfl⟩:=h;obtain ⟨_,zv,_,_,hzr,hzv⟩:=Wn (ρ:=ρ) hz;refine .inl ⟨_,.pointer (some ⟨w.heap.size,0,none⟩),_,?_,SH dU cx.floor z t zv.cells t (by rw [hzr.1];grind) hzr.2 _ _ fun ρ' hρ'=>.ptr _ 0 _ hρ'⟩;simp_all [execOp,Instr.alloc,newVar,newRow]
 .rename_i t x;obtain ⟨hbx,h⟩:=Yw h;simp only [Ad,Ac] at h;obtain ⟨rfl,rfl⟩:=h;have hc:=(hr x (by simp [Op.operands])).cells hbx;refine .inl ⟨_,.pointer (some ⟨w.heap.size,0,none⟩),_,?_,SH dU cx.floor _ t (a.eval x).cells t (by rw [hc.1];grind) hc.2 _ _ fun ρ' hρ'=>.ptr _ 0 _ hρ'⟩;simp [execOp,Instr.box,newVar,newRow]
 .rename_i t len parts;obtain ⟨ρ',u,w',dW,hp,_,_⟩:=y3d dU cx.floor h (XX parts.toList fun p hp=>hr p.2 (by grind [Op.operands]));refine .inl ⟨ρ',u,w',?_,hp⟩;have:(parts.map fun (i,x)=>(i,a.eval x))=(parts.toList.map fun p=>(p.1,a.eval p.2)).toArray :=by
   grind
  simp [execOp,this,dW]
 .rename_i t x y;split at h
  .rename_i b sz r fo hb;simp only [An,Ac] at h;obtain ⟨st1,h,rfl,rfl⟩:=h;have hx:=hr x (by simp [Op.operands]);rw [hb] at hx;obtain ⟨w',dW,hp⟩:=x5z dU h hob hx (hr y (by simp [Op.operands]));exact .inr (.inl ⟨ρ,w',by simp [execOp,dW],hp⟩)
  .simp only [An,Ac] at h;obtain ⟨st1,h,rfl,rfl⟩:=h;obtain ⟨w',dW,hp,_,_⟩:=x8v dU h (hr x (by simp [Op.operands])) (hr y (by simp [Op.operands]));exact .inr (.inl ⟨ρ,w',by simp [execOp,dW],hp⟩)
 .rename_i t l c;rcases Ky h with ⟨_,h⟩ | ⟨_,h⟩
  .rcases Ky h with ⟨_,h⟩ | ⟨_,h⟩
   .obtain ⟨ρ',u,w',dW,hp,_,_⟩:=z1d (st:=st.dropO) dU cx.floor h (hr l (by simp [Op.operands])) (hr c (by simp [Op.operands]));exact .inl ⟨ρ',u,w',by simp [execOp,dW],hp.val,hp.rel,hp.ev⟩
   .obtain ⟨ρ',u,w',dW,hp⟩:=y3a (st:=st.dropO) dU h hob (hr l (by simp [Op.operands])) (hr c (by simp [Op.operands]));exact .inl ⟨ρ',u,w',by simp [execOp,dW],hp.val,hp.rel,hp.ev⟩
  .obtain ⟨ρ',u,w',dW,hp,_,_⟩:=z1d dU cx.floor h (hr l (by simp [Op.operands])) (hr c (by simp [Op.operands]));exact .inl ⟨ρ',u,w',by simp [execOp,dW],hp⟩
 .rename_i args argTypes;have dX:Vi (VRel ρ) (args.toList.map st.eval) (args.map a.eval).toList :=by rw [Bw];exact Vi.maps _ _ _ fun x hx=>hr x (by grind [Op.operands,Call.operands])
  unfold J0 at h;rcases Ky h with ⟨_,h⟩ | ⟨_,h⟩
  .obtain ⟨ρ',u,w',dW,hp⟩:=x0p (type:=type) dU h hob dX;exact .inl ⟨ρ',u,w',by simp_all [execOp,resolve,invoke,builtin],hp⟩
  split at h
  .rename_i hxs;obtain ⟨ρ',u,w',dW,hp,_⟩:=z7z (type:=type) dU h hob (hxs ▸ dX);exact .inl ⟨ρ',u,w',by simp_all [execOp,resolve,invoke,builtin],hp⟩
  .obtain ⟨ρ',u,w',dW,hp,_,_⟩:=X6 (type:=type) dU cx.floor h dX;exact .inl ⟨ρ',u,w',by simp_all [execOp,resolve,invoke,builtin],hp⟩
 .rename_i args argTypes;have dX:Vi (VRel ρ) (args.toList.map st.eval) (args.map a.eval).toList :=by rw [Bw];exact Vi.maps _ _ _ fun x hx=>hr x (by grind [Op.operands,Call.operands])
  unfold Sm at h;split at h
  .rename_i b sz off len cap x xs hxs;obtain ⟨ρ',u,w',dW,hp⟩:=y4b (type:=type) (d:=.sla b sz off len cap) dU h hob (hxs ▸ dX) fun u hu=>by
    cases hu with
    | sla _ _ _ _ _ l c hρ _ dV=>grind
    | slan=>grind
   exact .inl ⟨ρ',u,w',by simp_all [execOp,resolve,invoke,builtin],hp⟩
  .rename_i b sz off len x xs hxs;obtain ⟨ρ',u,w',dW,hp⟩:=y4b (type:=type) (d:=.slv b sz off len) dU h hob (hxs ▸ dX) fun u hu=>by
    cases hu with
    | slv _ _ _ _ l c hρ dV=>grind
    | slve _ _ _ blk base c=>grind
    | slvn=>grind
   exact .inl ⟨ρ',u,w',by simp_all [execOp,resolve,invoke,builtin],hp⟩
  .obtain ⟨ρ',u,w',dW,hp,_,_⟩:=w6k (type:=type) dU cx.floor h dX;exact .inl ⟨ρ',u,w',by simp_all [execOp,resolve,invoke,builtin],hp⟩
 .rename_i args argTypes;have dX:Vi (VRel ρ) (args.toList.map st.eval) (args.map a.eval).toList :=by rw [Bw];exact Vi.maps _ _ _ fun x hx=>hr x (by grind [Op.operands,Call.operands])
  obtain ⟨ρ',u,w',dW,hp,_,_⟩:=x9b (type:=type) dU cx.floor h dX;exact .inl ⟨ρ',u,w',by simp_all [execOp,resolve,invoke,builtin],hp⟩
 .rename_i f args argTypes;split at h
  .rename_i g caps hg;have hf:=hr f (by simp [Op.operands,Call.operands]);rw [hg] at hf;generalize hw:a.eval f=u at hf;cases hf with
   | fn _ _ cvs hl hh=>
    have dX:Vi (VRel ρ) (args.toList.map st.eval++caps) (args.map a.eval++cvs).toList :=by rw [Array.toList_append,Bw];exact Vi.append (Vi.maps _ _ _ fun x hx=>hr x (by grind [Op.operands,Call.operands])) (Vi.of (by grind) fun i h1 h2=>by grind)
    obtain ⟨⟨fn,hfn,hb⟩,hc⟩:=x0b hS hR hcx h hob dX dU;refine .inr (.inr ⟨g,args.map a.eval++cvs,?_,hc⟩);simp_all [To,execOp,resolve,Deferred.ofValue,invoke]
  .rename_i g first hg
   have hf:=hr f (by simp [Op.operands,Call.operands]);rw [hg] at hf;generalize hw:a.eval f=u at hf;cases hf with
   | fnb _ _ cvs hl hh=>
    have dX:Vi (VRel ρ) (first++args.toList.map st.eval) (cvs++args.map a.eval).toList :=by rw [Array.toList_append,Bw];exact Vi.append (Vi.of (by grind) fun i h1 h2=>by grind) (Vi.maps _ _ _ fun x hx=>hr x (by grind [Op.operands,Call.operands]))
    obtain ⟨⟨fn,hfn,hb⟩,hc⟩:=x0b hS hR hcx h hob dX dU;refine .inr (.inr ⟨g,cvs++args.map a.eval,?_,hc⟩);simp_all [To,execOp,resolve,Deferred.ofValue,invoke]
  .cases h
 .cases h
end
section
variable {P:Program} {ρ:B6}
theorem Vz.congr {env env':T B2} {n:Nat} {tmps:Array Value} (h:Vz ρ env n tmps) (he: ∀t,T.get .undef env' t=T.get .undef env t):Vz ρ env' n tmps:=
 ⟨h.size,fun i=>by rw [he];exact h.get i,fun i hi=>by rw [he];exact h.out i hi⟩
theorem Vz.eval {st:St} {n:Nat} {a:Act} (h:Vz ρ st.env n a.tmps) (x:Operand):VRel ρ (st.eval x) (a.eval x):=by
 cases x with
 | tmp t=>exact h.get t
 | const v=>exact v9m v
 | global g=>exact .undef _
 | func f=>exact .fn f [] #[] rfl fun i h1 _=>by simp at h1
theorem Vz.put {env env':T B2} {n:Nat} {a:Act} (h:Vz ρ env n a.tmps) {dst:Option Tmp} {v:B2} {u:Value} (hv:VRel ρ v u)
  (hp:(dst=none/\env'=env)\/ ∃d,dst=some d/\d<n/\env'=T.set .undef env d v):Vz ρ env' n (a.put dst u).tmps :=by
 rcases hp with ⟨rfl,rfl⟩ | ⟨d,rfl,hd,rfl⟩
 .exact h
 .have hsz:=h.size;refine ⟨by simp [Act.put,hsz],fun i=> ?_,fun i hi=> ?_⟩
  .rw [T.get_set];by_cases hi:i=d
   .simp_all [Act.put]
   .rw [Aw hi];have:=h.get i
    simpa [Act.put,Array.getElem?_setIfInBounds_ne (Ne.symm hi)] using this
  .rw [T.get_set,Aw (Nat.ne_of_gt (A0 hd hi))];exact h.out i hi
theorem Act.put_defers' (a:Act) (dst:Option Tmp) (v:Value):(a.put dst v).defers =a.defers:=by cases dst <;> rfl
theorem v4t {ops:Array Oper} {o:Oper} {cx:CL} {st st':St} {e:Bool} (h:Hb ops o cx st=some (e,st')):st'.mem=st.mem/\st'.next=st.next/\(st'.ob=true->st.ob=true/\ ∀t,st'.tmp t=st.tmp t):=by
 unfold Hb at h;split at h
 .grind
 .split at h
  .cases h
  .rename_i d hd;split at h
   .rename_i b hb;split at h;rename_i e1 st1 ht;split at h
    .rename_i st2 hp;simp only [Ad,Ac] at h;obtain ⟨_,rfl⟩:=h;obtain ⟨t1,t2,t3,t4⟩:=y7a ht;obtain ⟨p1,p2,p3,p4⟩:=Vg hp;refine ⟨p1.trans t2,p2.trans t3,fun ho=> ?_⟩;rw [p3] at ho;obtain ⟨rfl,ho⟩:=t4 ho;refine ⟨ho,fun t=> ?_⟩;rcases p4 with ⟨e,_⟩ | ⟨d',e,_,he⟩
     .cases e
     .obtain rfl:=Ag e;show T.get .undef st2.env t=T.get .undef st.env t;rw [he,t1,T.get_set];split
      .rename_i h;subst h;exact hb.symm
      .rfl
    .cases h
   all_goals grind
def Js (ops:Array Oper) (o:Oper):Option Tmp:=o.guard.bind fun g=>(ops[g.1]?).bind (·.dst)
theorem w6f {ops:Array Oper} {o:Oper} {cx:CL} {st st':St} {e:Bool} (h:Hb ops o cx st=some (e,st')) (ho:st'.ob=true) {tmps:Array Value} (hsz:tmps.size=cx.n)
  (hr: ∀d,Js ops o=some d->VRel ρ (st.tmp d) (tmps.getD d undef)):Region.wanted o (yielded ops tmps)=e:=by
 unfold Hb at h;unfold Region.wanted;split at h
 .grind
 .rename_i j want hg;rw [hg];simp only;split at h
  .cases h
  .rename_i d hd;have hrd:=hr d (by simp [Js,hg,hd]);split at h
   .rename_i b hb;split at h;rename_i e1 st1 ht;split at h
    .rename_i st2 hp;simp only [Ad,Ac] at h;obtain ⟨rfl,rfl⟩:=h;obtain ⟨_,_,_,t4⟩:=y7a ht;obtain ⟨_,_,p3,p4⟩:=Vg hp;rw [p3] at ho;obtain ⟨rfl,_⟩:=t4 ho;rcases p4 with ⟨e,_⟩ | ⟨d',e,hlt,_⟩
     .cases e
     .obtain rfl:=Ag e;rw [hb] at hrd;have hlt':d<tmps.size:=(by grind);have eD:tmps.getD d undef=tmps[d]:=(by simp [hlt']);rw [eD] at hrd;have:yielded ops tmps j=some e1:=by unfold yielded;rw [hd];simp only [Option.bind_some,Bz hlt'];generalize tmps[d]=u at hrd;cases hrd;rfl
      grind
    .cases h
   .rename_i hb;simp only [Ad,Ac] at h;obtain ⟨rfl,rfl⟩:=h;rw [hb] at hrd;have:yielded ops tmps j=none:=by
     unfold yielded;rw [hd];simp only [Option.bind_some];by_cases hlt:d<tmps.size
     .have eD:tmps.getD d undef=tmps[d]:=(by simp [hlt]);rw [eD] at hrd;rw [Bz hlt];generalize tmps[d]=u at hrd;cases hrd;rfl
     grind
    grind
   .cases h
theorem u2m {cx:CL} {t:Nat} {kd:IntKind} {n:Int} {st st':St} (ht:st.tmp t=.int kd n) (h:st.conc cx t kd n=some st'):st'.mem=st.mem/\st'.next=st.next/\(st'.ob=true->st.ob=true/\ ∀t,st'.tmp t=st.tmp t):=by
 obtain ⟨env,mem,next,orc,ob⟩:=st;cases orc with
 | nil=>
  obtain rfl:=Ag h
  grind
 | cons o r=>
  unfold St.conc at h;obtain ⟨_,h⟩:=Yw h;obtain rfl:=Ag h;refine ⟨rfl,rfl,fun ho=> ?_⟩;simp only [Ae,Ar] at ho;refine ⟨ho.2,fun k=> ?_⟩;show T.get .undef (T.set .undef env t _) k=T.get .undef env k;rw [T.get_set];split
  .rename_i e;subst e;rw [<-ho.1];exact ht.symm
  .rfl
theorem v4y {o:Oper} {cx:CL} {st st':St} (h:j0l o cx st=some st'):st'.mem=st.mem/\st'.next=st.next/\(st'.ob=true->st.ob=true/\ ∀t,st'.tmp t=st.tmp t):=by grind [j0l,u2m]
theorem Qa {ops:Array Oper} {o:Oper} {cx:CL} {st st':St} {e:Bool} (h:HF ops o cx st=some (e,st')): ∃st1,Hb ops o cx st=some (e,st1)/\st'.mem=st1.mem/\st'.next=st1.next/\(st'.ob=true->st1.ob=true/\ ∀t,st'.tmp t=st1.tmp t)/\(Xg o.op=.alloc \/e=false->st'=st1):=by
 unfold HF at h;split at h
 .rename_i st1 h1;split at h
  .rename_i st2 h2;simp only [Ad,Ac] at h;obtain ⟨rfl,rfl⟩:=h;obtain ⟨c1,c2,c3⟩:=v4y h2;refine ⟨st1,h1,c1,c2,c3,fun hk=> ?_⟩;rcases hk with hk | hk
   .unfold j0l at h2;split at h2
    .rename_i ho;rw [ho] at hk;cases hk
    .rename_i ho;rw [ho] at hk;cases hk
    grind
   .cases hk
  .cases h
 grind
theorem Wh {ops:Array Oper} {o:Oper} {cx:CL} {st st':St} {e:Bool} (h:HF ops o cx st=some (e,st')):st'.mem=st.mem/\st'.next=st.next/\(st'.ob=true->st.ob=true/\ ∀t,st'.tmp t=st.tmp t):=by grind [Qa,v4t]
theorem Kx {ops:Array Oper} {o:Oper} {cx:CL} {st st':St} {e:Bool} (h:HF ops o cx st=some (e,st')) (ho:st'.ob=true) {tmps:Array Value} (hsz:tmps.size=cx.n)
  (hg: ∀d,Js ops o=some d->VRel ρ (st.tmp d) (tmps.getD d undef)):Region.wanted o (yielded ops tmps)=e:=by
 obtain ⟨st1,h1,_,_,c3,_⟩:=Qa h;exact w6f h1 (c3 ho).1 hsz hg
structure t5n (P:Program) (cx:CL) (o:Oper) (st st':St) (v:B2):Prop where
 ob:st.ob=true
 does: ∀(ρ:B6) (a:Act) (w:World) (ev:Operand->B2),(∀x,x∈o.op.operands->ev x=st.eval x)->E5 ρ ev a.eval o.op->B7 ρ st.mem st.next w->JQ P o a w (EM ρ cx.floor st st' v w)
 calm:(Xg o.op=.pure \/Xg o.op=.read)-> ∀(ρ:B6) (a:Act) (w:World) (ev:Operand->B2) (mem:CD) (next:Nat),(∀x,x∈o.op.operands->ev x=st.eval x)->E5 ρ ev a.eval o.op->B7 ρ mem next w->
  (∀t y b ab,o.op=.load t y->Ep o.op ev=some b->Yr st.mem b=some ab->Yr mem b=some ab)-> ∃u,(execOp a.eval o).run P w=.ok (.value u) w/\VRel ρ v u
theorem u0p {op:Op} {ev:Operand->B2} {x:B2×Bool} (h:DN P op ev=some x):Xg op=.pure :=by
 cases op with
 | call c=>
  obtain ⟨callee,args,argTypes⟩:=c;cases callee with
  | builtin b=>cases b <;> first | rfl | (simp [DN,X8] at h)
  | value f=>simp [DN] at h
  | invoke r m=>rfl
 | _=>first | rfl | (simp [DN] at h;done)
theorem w2y {S:B4} {R:CC} (hN:Ex P) (hS:Zv P S) (hRI:FG R) (hR:Gz P R) {lift:Bool} {o:Oper} {cx:CL} {st st':St} (hcx:cx.floor<=st.next) (h:Nj P S R lift o cx st=some st'):
  ∃v stm,stm.put cx o.dst v=some st'/\stm.env=st.env/\Wx cx.floor st stm/\((Xg o.op=.pure \/Xg o.op=.read)->stm.mem=st.mem/\stm.next=st.next)/\
   (lift=true->Xg o.op=.call -> ∀b,b<st.next->Ek S o.op st.eval≠some b->Yr stm.mem b=Yr st.mem b)/\
   (Xg o.op=.chain -> ∀b,b<st.next->EO o.op st.eval≠some b->Yr stm.mem b=Yr st.mem b)/\
   (Xg o.op=.alloc ->v=.ptr st.next 0/\ ∃t z,o.op=.alloc t/\E8 P t=some z/\stm=DU st z t)/\
   (st'.ob=true->t5n P cx o st stm v):=by
 unfold Nj at h;split at h
 .rename_i v b hp;have hk:=u0p hp;split at h
  .rename_i st1 h1;obtain ⟨e1,e2,e3,e4⟩:=Wv h1;refine ⟨v,st1,h,e1,Wx.same e2 e3 fun x=>(e4 x).2,fun _=>⟨e2,e3⟩,(fun _ hc=>by grind),(fun hc=>by grind),(fun hc=>by grind),fun ho=> ?_⟩;obtain ⟨_,_,p3,_⟩:=Vg h;rw [p3] at ho;obtain ⟨rfl,ho1⟩:=e4 ho;refine ⟨ho1,fun ρ a w ev hev hr dU=> ?_,fun _ ρ a w ev mem next hev hr dU hag=> ?_⟩
   .have hr':E5 ρ st.eval a.eval o.op:=fun x hx=>by rw [<-hev x hx];exact hr x hx
    obtain ⟨u,hu,dW⟩:=y9v hp rfl hr';exact .inl ⟨ρ,u,w,dW w,hu,by grind,by rw [e2,e3];exact Ev.refl _ _ _ _ _ dU.dom⟩
   .have hr':E5 ρ st.eval a.eval o.op:=fun x hx=>by rw [<-hev x hx];exact hr x hx
    grind [y9v]
  .cases h
 .split at h
  .rename_i v stm he;obtain ⟨gC,dY⟩:=y9z hRI he;refine ⟨v,stm,h,dY,gC,fun hk=> ?_,fun hl hk b hb hw=> ?_,fun hk b hb hn=>x9a hk hb hn he,fun hk=> ?_,fun ho=> ?_⟩
   .obtain ⟨dst,op,type,pos,after,guard⟩:=o;simp only at hk he;cases op with
    | load t x=>
     simp only [Vj] at he;split at he
     .rename_i hl;obtain ⟨l1,l2,l3,l4⟩:=XT hl;simp only [An,Ac] at he
      grind [Wv]
     .cases he
    | call c=>
     obtain ⟨callee,args,argTypes⟩:=c;cases callee with
     | builtin b=>cases b <;> first | (simp [Vj] at he;done) | (simp [Xg] at hk;done)
     | value f=>simp [Xg] at hk
     | invoke r m=>simp [Vj] at he
    | _=>first | (simp [Vj] at he;done) | (simp [Xg] at hk;done)
   .obtain ⟨dst,op,type,pos,after,guard⟩:=o;simp only at hk he;cases op with
    | call c=>
     obtain ⟨callee,args,argTypes⟩:=c;cases callee with
     | builtin b=>cases b <;> first | (simp [Vj] at he;done) | (simp [Xg] at hk;done)
     | value f=>
      grind [Vj,x9c,Ek]
     | invoke r m=>simp [Vj] at he
    | _=>first | (simp [Vj] at he;done) | (simp [Xg] at hk;done)
   .obtain ⟨dst,op,type,pos,after,guard⟩:=o;simp only at hk he;cases op with
    | alloc t=>
     simp only [Vj,An,Ac] at he
     grind
    | call c=>
     obtain ⟨callee,args,argTypes⟩:=c;cases callee with
     | builtin b=>cases b <;> first | (simp [Vj] at he;done) | (simp [Xg] at hk;done)
     | value f=>simp [Xg] at hk
     | invoke r m=>simp [Vj] at he
    | _=>first | (simp [Vj] at he;done) | (simp [Xg] at hk;done)
   .obtain ⟨_,_,p3,_⟩:=Vg h;rw [p3] at ho;refine ⟨gC.ob ho,fun ρ a w ev hev hr dU=>x6d hN hS hR hcx he ho hev hr dU,fun hk ρ a w ev mem next hev hr dU hag=> ?_⟩;obtain ⟨dst,op,type,pos,after,guard⟩:=o;simp only at hk he hev hr hag;cases op with
    | load t x=>
     simp only [Vj] at he;split at he
     .rename_i v' bb st0 hv;obtain ⟨l1,l2,l3,l4⟩:=XT hv;simp only [An,Ac] at he;obtain ⟨st1,h1,rfl,rfl⟩:=he;obtain ⟨_,_,_,e4⟩:=Wv h1;obtain ⟨rfl,hob0⟩:=e4 ho;have hv:=(l4 hob0).1;have hx:x∈(Op.load t x).operands :=(by simp [Op.operands]);have hl:Nb P mem t (ev x)=some (v',true):=by
       rw [hev x hx];have hag': ∀b ab,Ep (.load t x) st.eval=some b->Yr st.mem b=some ab->Yr mem b=some ab:=fun b ab q1 q2=>hag t x b ab rfl (by grind [Ep]) q2;unfold Nb at hv ⊢;split at hv
       .grind [Ep]
       .rename_i y hy;unfold Nv at hv ⊢
        grind [Ep]
      obtain ⟨z,hz,dW⟩:=y4a dU hl (hr x hx);simp_all [execOp]
     .cases he
    | call c=>
     obtain ⟨callee,args,argTypes⟩:=c;cases callee with
     | builtin b=>cases b <;> first | (simp [Vj] at he;done) | (simp [Xg] at hk;done)
     | value f=>simp [Xg] at hk
     | invoke r m=>simp [Vj] at he
    | _=>first | (simp [Vj] at he;done) | (simp [Xg] at hk;done)
  .cases h
theorem y8g {S:B4} {R:CC} {ops:Array Oper} {cx:CL} {x:Bool×Oper} {l:List (Bool×Oper)} {st:St}:w8b P S R ops cx (x::l) st=(Hk P S R ops cx x st).bind (w8b P S R ops cx l):=by grind [w8b,Hk]
theorem JQ.wp2 {o:Oper} {a:Act} {w:World} {K:B6->Value->World->Prop} {next:Act->World->Prop} {Q:Exit->Act->World->Prop} (h:JQ P o a w K)
  (hk: ∀ρ' u w',K ρ' u w'->((execOp a.eval o).run P w=.ok (.value u) w'\/ ∀u w',(execOp a.eval o).run P w≠ .ok (.value u) w')->next (a.put o.dst u) w'):o.wp P a w next Q:=by
 unfold Oper.wp;rcases h with ⟨ρ',u,w',e,k⟩ | ⟨ρ',w',e,k⟩ | ⟨f,args,e,hc⟩
 .have:=hk _ _ _ k (.inl e);rw [e];exact this
 .have:=hk _ _ _ k (.inr fun u w' e2=>by grind);rw [e];exact this
 .rw [e];exact hc.mono fun e' w' ⟨ρ',u,he,k⟩=>by
   grind
theorem v0o (m:CD) (sz:Nat) (zero:List B2) (ut:TypeDesc) (b o n:Nat) (c:Fc):x3v m sz zero ut (.sl b o n c)=none:=by cases ut <;> rfl
theorem u3d {cx:CL} {st:St} {ts:List TypeId} {s:B2} {b o n:Nat} {c:Fc} {r:List B2}:H3 P cx st ts (s::.sl b o n c::r)=none:=by
 unfold H3
 grind [v0o,unN]
theorem v3f {S:B4} {R:CC} {lift:Bool} {o:Oper} {cx:CL} {st st':St} (h:Nj P S R lift o cx st=some st') (hob:st'.ob=true) {b:Nat} (hk:El o.op st.eval st.mem=some b) {a:Act} {w:World} (hr:E5 ρ st.eval a.eval o.op) (dU:B7 ρ st.mem st.next w):
  ∃u w',(execOp a.eval o).run P w=.ok (.value u) w'/\ ∀ab l,Yr st.mem b=some ab->ρ b=some l->Jd ρ w' ab l:=by
 obtain ⟨dst,op,type,pos,after,guard⟩:=o;simp only at hk hr;unfold El at hk;split at hk
 .rename_i args argTypes;have dX:Vi (VRel ρ) (args.toList.map st.eval) (args.map a.eval).toList :=by rw [Bw];exact Vi.maps _ _ _ fun x hx=>hr x (by grind [Op.operands,Call.operands])
  have h:(match J0 P cx st argTypes.toList (args.toList.map st.eval) with
   | some (v,st2)=>st2.put cx dst v
   | none=>none)=some st':=h
  split at h
  .rename_i v st2 h2;have ho2:st2.ob=true:=by
    obtain ⟨_,_,p3,_⟩:=Vg h
    grind
   unfold J0 at h2;split at hk
   .rename_i b' sz off len z b2 o2 n2 c2 r he;obtain rfl:=Ag hk;rw [he] at h2 dX;rcases Ky h2 with ⟨_,h2⟩ | ⟨_,h2⟩
    .rw [u3d] at h2;cases h2
    .obtain ⟨ρ',u,w',dW,_,hq⟩:=z7z (type:=type) dU h2 ho2 dX;exact ⟨u,w',by simp_all [execOp,resolve,invoke,builtin],fun ab l k1 k2=>hq _ _ _ _ _ _ _ _ rfl k1 k2⟩
   .rename_i b' off len z b2 o2 n2 c2 r he;split at hk
    .rename_i blk hm;obtain ⟨hc,hk⟩:=Yw hk;obtain rfl:=Ag hk;simp only [Ae] at hc;rw [he] at h2 dX;rcases Ky h2 with ⟨_,h2⟩ | ⟨_,h2⟩
     .rw [u3d] at h2;cases h2
     .obtain ⟨ρ',u,w',dW,_,_,hq⟩:=X6 (type:=type) dU cx.floor h2 dX;refine ⟨u,w',by simp_all [execOp,resolve,invoke,builtin],fun ab l k1 k2=> ?_⟩;rw [hm] at k1;obtain rfl:=Ag k1;exact hq.1 _ _ _ _ _ _ _ _ _ _ _ rfl (Ak hc.2) hm (Aj hc.1) k2
    .cases hk
   .cases hk
  .cases h
 .cases hk
structure WZ (S:B4) (P:Program) (ops:Array Oper) (cx:CL) (x:Bool×Oper) (st st':St):Prop where
 inv:Wx cx.floor st st'
 stay:(Xg x.2.op=.pure \/Xg x.2.op=.read)->st'.mem=st.mem/\st'.next=st.next
 lift:st'.ob=true->x.1=true->Xg x.2.op=.call -> ∀b,b<st.next->Ek S x.2.op st.eval≠some b->Yr st'.mem b=Yr st.mem b
 foot:st'.ob=true->Xg x.2.op=.chain -> ∀b,b<st.next->EO x.2.op st.eval≠some b->Yr st'.mem b=Yr st.mem b
 alloc:Xg x.2.op=.alloc ->x.2.guard=none-> ∃t z,x.2.op=.alloc t/\E8 P t=some z/\st'.mem=(DU st z t).mem /\st'.next=(DU st z t).next /\ ∀d,x.2.dst=some d->st'.tmp d=.ptr st.next 0
 slot: ∀d,x.2.dst=some d->d<cx.n
 other:st'.ob=true-> ∀t,x.2.dst≠some t->st'.tmp t=st.tmp t
 does:st'.ob=true-> ∀(ρ:B6) (a:Act) (w:World) (ev:Operand->B2),a.tmps.size=cx.n->(∀y,y∈x.2.op.operands->ev y=st.eval y)->(∀d,Js ops x.2=some d->VRel ρ (st.tmp d) (a.tmps.getD d undef))->E5 ρ ev a.eval x.2.op->B7 ρ st.mem st.next w->
  ∀(K:Act->World->Prop) (Q:Exit->Act->World->Prop),(∀ρ' u w',(∀d,x.2.dst=some d->VRel ρ' (st'.tmp d) u)->B7 ρ' st'.mem st'.next w'->Ev ρ ρ' cx.floor st.mem st.next st'.mem st'.next w w'->(∀b ab l,El x.2.op st.eval st.mem=some b->Yr st.mem b=some ab->ρ b=some l->Jd ρ w' ab l)->K (a.put x.2.dst u) w')->
   if Region.wanted x.2 (yielded ops a.tmps) then x.2.wp P a w K Q else K (a.put x.2.dst undef) w
 calm:st'.ob=true->(Xg x.2.op=.pure \/Xg x.2.op=.read)-> ∀(ρ:B6) (a:Act) (w:World) (ev:Operand->B2) (mem:CD) (next:Nat),a.tmps.size=cx.n->(∀y,y∈x.2.op.operands->ev y=st.eval y)->(∀d,Js ops x.2=some d->VRel ρ (st.tmp d) (a.tmps.getD d undef))->E5 ρ ev a.eval x.2.op->B7 ρ mem next w->
  (∀t y b ab,x.2.op=.load t y->Ep x.2.op ev=some b->Yr st.mem b=some ab->Yr mem b=some ab)-> ∀(K:Act->World->Prop) (Q:Exit->Act->World->Prop),(∀u,(∀d,x.2.dst=some d->VRel ρ (st'.tmp d) u)->K (a.put x.2.dst u) w)->
   if Region.wanted x.2 (yielded ops a.tmps) then x.2.wp P a w K Q else K (a.put x.2.dst undef) w
theorem x1b {S:B4} {R:CC} (hN:Ex P) (hS:Zv P S) (hRI:FG R) (hR:Gz P R) {ops:Array Oper} {x:Bool×Oper} {cx:CL} {st st':St} (hcx:cx.floor<=st.next) (h:Hk P S R ops cx x st=some st'):
  WZ S P ops cx x st st':=by
 unfold Hk at h;split at h
 .cases h
 .rename_i st1 hw;obtain ⟨w1,w2,w3⟩:=Wh hw;obtain ⟨v,stm,hp,dY,gC,hstay,hlift,hfoot,halloc,hdo⟩:=w2y hN hS hRI hR (by grind) h;obtain ⟨p1,p2,p3,p4⟩:=Vg hp;have fY: ∀d,x.2.dst=some d->st'.tmp d=v:=fun d hd=>by
   rcases p4 with ⟨e,_⟩ | ⟨d',e,_,he⟩
   .grind
   .rw [hd] at e;obtain rfl:=Ag e;show T.get .undef st'.env d=v;rw [he,T.get_set,AG rfl]
  have hi1:Wx cx.floor st st1:=Wx.same w1 w2 fun ho=>(w3 ho).1;have hi2:Wx cx.floor stm st':=Wx.same p1 p2 fun ho=>by grind
  refine ⟨(hi1.trans gC).trans hi2,fun hk=> ?_,fun ho hl hk b hb hn=> ?_,fun ho hk b hb hn=> ?_,fun hk hg=> ?_,fun d hd=> ?_,fun ho t ht=> ?_,fun ho ρ a w ev hsz hev hgr hr dU K Q hK=> ?_,fun ho hk ρ a w ev mem next hsz hev hgr hr dU hag K Q hK=> ?_⟩
  .grind
  .have ho1:st1.ob=true:=gC.ob (by grind);have eL:st1.eval=st.eval:=by
    funext y
    cases y with
    | tmp t=>exact (w3 ho1).2 t
    | _=>rfl
   grind
  .have ho1:st1.ob=true:=gC.ob (by grind);have eL:st1.eval=st.eval:=by
    funext y
    cases y with
    | tmp t=>exact (w3 ho1).2 t
    | _=>rfl
   grind
  .grind [Qa,Hb]
  .grind
  .have ho1:st1.ob=true:=gC.ob (by grind);rw [<-(w3 ho1).2 t];show T.get .undef st'.env t=T.get .undef st1.env t
   grind [T.get_set]
  .have ho1:st1.ob=true:=gC.ob (by grind);have eL:=(w3 ho1).2;have fU: ∀y,st1.eval y=st.eval y:=fun y=>by cases y <;> first | rfl | exact eL _
   rw [Kx hw ho1 hsz hgr,AG rfl];refine ((hdo ho).does ρ a w ev (fun y hy=>by grind) hr (by grind)).wp2 fun ρ' u w' hpost dW=> ?_;have he:=hpost.ev;rw [w1,w2] at he;refine hK ρ' u w' (fun d hd=>by rw [fY d hd];exact hpost.val) (by rw [p1,p2];exact hpost.rel) (by grind) fun b ab l k1 k2 k3=> ?_;have hr':E5 ρ st1.eval a.eval x.2.op:=fun y hy=>by rw [fU y,<-hev y hy];exact hr y hy
   have e1:st1.eval=st.eval:=funext fU
   grind [v3f]
  .have ho1:st1.ob=true:=gC.ob (by grind);have eL:=(w3 ho1).2;have fU: ∀y,st1.eval y=st.eval y:=fun y=>by cases y <;> first | rfl | exact eL _
   rw [Kx hw ho1 hsz hgr,AG rfl];obtain ⟨u,dW,hu⟩:=(hdo ho).calm hk ρ a w ev mem next (fun y hy=>by grind) hr dU (fun t y b ab q1 q2 q3=>hag t y b ab q1 q2 (by grind))
   unfold Oper.wp;rw [dW];exact hK u fun d hd=>by grind
 .rename_i st1 hw;obtain ⟨w1,w2,w3⟩:=Wh hw;obtain ⟨p1,p2,p3,p4⟩:=Vg h;have fY: ∀d,x.2.dst=some d->st'.tmp d=.tup []:=fun d hd=>by
   rcases p4 with ⟨e,_⟩ | ⟨d',e,_,he⟩
   .grind
   .rw [hd] at e;obtain rfl:=Ag e;show T.get .undef st'.env d=.tup [];rw [he,T.get_set,AG rfl]
  refine ⟨Wx.same (p1.trans w1) (p2.trans w2) fun ho=>(w3 (by grind)).1,fun _=>⟨p1.trans w1,p2.trans w2⟩,fun _ _ _ b _ _=>by rw [p1,w1],fun _ _ b _ _=>by rw [p1,w1],fun hk hg=> ?_,fun d hd=> ?_,fun ho t ht=> ?_,fun ho ρ a w ev hsz hev hgr hr dU K Q hK=> ?_,fun ho hk ρ a w ev mem next hsz hev hgr hr dU hag K Q hK=> ?_⟩
  .grind [Qa,Hb]
  .grind
  .rw [<-(w3 (by grind)).2 t];show T.get .undef st'.env t=T.get .undef st1.env t
   grind [T.get_set]
  .have ho1:st1.ob=true:=by grind
   rw [Kx hw ho1 hsz hgr,Aw (by simp)];refine hK ρ undef w (fun d hd=>by rw [fY d hd];exact .tup [] #[] rfl fun i h1 _=>by simp at h1) ?_ ?_ fun b ab l _ k2 k3=>dU.blk b l ab k3 k2
   .grind
   .rw [p1,p2,w1,w2];exact Ev.refl _ _ _ _ _ dU.dom
  .have ho1:st1.ob=true:=by grind
   rw [Kx hw ho1 hsz hgr,Aw (by simp)];exact hK undef fun d hd=>by rw [fY d hd];exact .tup [] #[] rfl fun i h1 _=>by simp at h1
def JP (D:List Deferred) (ρ:B6) (cx:CL) (st st':St) (w:World):Exit->Act->World->Prop:=fun e a' w'=>
 e=.normal /\a'.defers=D/\ ∃ρ',Vz ρ' st'.env cx.n a'.tmps/\B7 ρ' st'.mem st'.next w'/\Ev ρ ρ' cx.floor st.mem st.next st'.mem st'.next w w'
def u6l (ρ:B6) (k:Nat) (o:Obj):B6:=⟨ρ.f,fun j=>if j=k then some o else ρ.fz j,ρ.lp⟩
theorem x4m {k:Nat} {o:Obj} (h:ρ.fz k=none):ρ.le (u6l ρ k o):=
 ⟨fun _ _ e=>e,fun j o' e=>by
  show (if j=k then some o else ρ.fz j)=some o'
  grind,fun _ _ e=>e⟩
theorem B7.froze {mem:CD} {next:Nat} {w:World} (h:B7 ρ mem next w) (vs:Array Value) (el:TypeId):
  B7 (u6l ρ w.heap.size (.cells vs el)) mem next {w with heap:=w.heap.push (.cells vs el)}:=by
 have hle:=x4m (o:=.cells vs el) (h.hold w.heap.size (Aq _));have push: ∀k,k<w.heap.size->(w.heap.push (.cells vs el))[k]? =w.heap[k]? :=fun k hk=>by
  grind
 refine ⟨h.dom,h.inj,fun b l ab e hm=> ?_,fun k o e=> ?_,fun b l e hs=> ?_,fun b l e=> ?_,h.bd,h.ldom⟩
 .exact (h.blk b l ab e hm).world hle (push _ (h.real b l e))
 .have e:(if k=w.heap.size then some (.cells vs el) else ρ.fz k)=some o:=e;show (w.heap.push (.cells vs el))[k]? =some o;by_cases hk:k=w.heap.size
  .grind
  .rw [Aw hk] at e;have:=h.old k o e
   grind
 .have:=h.real b l e;show (if l.blk=w.heap.size then _ else ρ.fz l.blk)=none;rw [Aw (by omega)];exact h.sep b l e hs
 .have:=h.real b l e
  grind
theorem Ev.froze {mem:CD} {next:Nat} {w:World} (h:B7 ρ mem next w) (floor:Nat) (m:CD) (vs:Array Value) (el:TypeId):
  Ev ρ (u6l ρ w.heap.size (.cells vs el)) floor m next m next w {w with heap:=w.heap.push (.cells vs el)}:=by
 have hle:=x4m (o:=.cells vs el) (h.hold w.heap.size (Aq _));refine ⟨hle,fun _ _=>rfl,Aq _,fun _ _ _ _ _ q=>q,fun k o q _=> ?_,fun b l hb hl=> ?_,?_,rfl,rfl,rfl,fun k hk=> ?_⟩
 .grind
 .have:=h.dom b l hl;omega
 .grind
 .show (if k=w.heap.size then _ else ρ.fz k)=ρ.fz k
  grind
theorem w6j {w:World} {t:TypeId} {len:Nat} {ps:List (Nat×B2)} {qs:List (Nat×Value)} {v:B2} (hb:t5m P t len ps=some v) (hp:JZ ρ ps qs) (hf:ρ.fz w.heap.size=none):
  ∃u vs el,(Instr.buildSlice t len qs.toArray).run P w=.ok u {w with heap:=w.heap.push (.cells vs el)}/\VRel (u6l ρ w.heap.size (.cells vs el)) v u:=by
 unfold t5m at hb;split at hb
 .rename_i e hu;split at hb
  .rename_i i zero hi hz;obtain ⟨hc,hb⟩:=Yw hb;simp only [Ae] at hc;obtain ⟨⟨hl1,hs1⟩,hle,hzl⟩:=hc;have hl1:=Ak hl1;have hs1:=Ak hs1;have hle:=Ak hle;have hzl:=Aj hzl;split at hb
   .rename_i cells dZ;obtain ⟨hc,hb⟩:=Yw hb;simp only [Ae] at hc;obtain ⟨hn,hpf⟩:=hc;have hn:=Aj hn;obtain rfl:=Ag hb;obtain ⟨_,z,_,_,hzr,hzv⟩:=Wn (ρ:=ρ) hz;have fH:=Sf hzr len (len*i.size) (by rw [hzl]);obtain ⟨arr,h1,h2⟩:=SZ dZ fH hp;have hsz:arr.size=len*i.size:=(by rw [<-h2.1,hn]);have hgt': ¬2 ^ 24<len*i.size:=(by omega);have hpos:0<len*i.size:=Nat.mul_pos (by omega) (by omega);have h0: ¬len*i.size=0:=(by omega);refine ⟨.slice (some ⟨w.heap.size,0,none⟩) len len,arr,e,?_,?_⟩
    .have hsz0: ¬i.size=0:=(by omega);simp [Instr.buildSlice,run_underlying hu,Zr hi,h0,hsz0,hzv,h1,newRow,hgt']
    .have hin: ∀a b,a<len->b<i.size->a*i.size+b<cells.length:=fun a b ha hb=>by
      have:(a+1)*i.size<=len*i.size:=AC _ ha
      grind
     have eD: ∀a,a<len->((cells.drop (a*i.size)).take i.size).length =i.size:=fun a ha=>by
      have:(a+1)*i.size<=len*i.size:=AC _ ha
      grind
     refine .dat len _ w.heap.size 0 i.size len (fun a b=>arr.getD (a*i.size+b) undef) (Aq _) (fun a ha=>eD a ha) (fun a b ha hb=> ?_) (fun a b ha hb=> ?_)
     .have hb':b<i.size:=(by grind);have h3:=hin a b ha hb';have e1:((cells.drop (a*i.size)).take i.size)[b]=cells[a*i.size+b]:=by
       grind
      rw [e1];have h4:a*i.size+b<arr.size:=(by grind);have e2:arr.getD (a*i.size+b) undef=arr[a*i.size+b]:=(by simp [h4]);rw [e2];have h5:=Kv 6 _ _ (At.1 hpf _ (AV h3)) (h2.2 _ h3 h4);exact h5.mono (x4m (o:=.cells arr e) hf).bare
     .have h3:=hin a b ha hb;have h4:a*i.size+b<arr.size:=(by grind);refine ⟨arr,e,(0,0),?_,?_⟩
      .show (if w.heap.size=w.heap.size then some (Obj.cells arr e) else _)=_
       grind
      .simp [h4]
   .cases hb
  .cases hb
 .cases hb
structure j0o (S:B4) (z:Nat) (P:Program) (ops:Array Oper) (cx:CL) (x:Bool×Oper) (st st':St):Prop where
 inv:Wx cx.floor st st'
 stay:(Xb z x.2.op=.pure \/Xb z x.2.op=.read \/Xb z x.2.op=.lit)->st'.mem=st.mem/\st'.next=st.next
 lift:st'.ob=true->x.1=true->Xb z x.2.op=.call -> ∀b,b<st.next->Ek S x.2.op st.eval≠some b->Yr st'.mem b=Yr st.mem b
 foot:st'.ob=true->Xb z x.2.op=.chain -> ∀b,b<st.next->EO x.2.op st.eval≠some b->Yr st'.mem b=Yr st.mem b
 fresh:st'.ob=true->(Xb z x.2.op=.alloc \/Xb z x.2.op=.birth)->x.2.guard=none-> ∃cells ty,st'.mem=Wb st.mem st.next (some ⟨cells,ty,none⟩)/\st'.next=st.next+1/\
  ∀(ρ:B6) (a:Act) (w:World) (ev:Operand->B2),(∀y,y∈x.2.op.operands->ev y=st.eval y)->E5 ρ ev a.eval x.2.op->
   ∃u vs el,Jq ρ cells vs/\(execOp a.eval x.2).run P w=.ok (.value u) {w with heap:=w.heap.push (.cells vs el)}/\ ∀ρ':B6,ρ' st.next=some ⟨w.heap.size,0,cells.length,vs.size⟩-> ∀d,x.2.dst=some d->VRel ρ' (st'.tmp d) u
 slot: ∀d,x.2.dst=some d->d<cx.n
 other:st'.ob=true-> ∀t,x.2.dst≠some t->st'.tmp t=st.tmp t
 does:st'.ob=true->(Xb z x.2.op=.chain \/Xb z x.2.op=.call)-> ∀(ρ:B6) (a:Act) (w:World) (ev:Operand->B2),a.tmps.size=cx.n->(∀y,y∈x.2.op.operands->ev y=st.eval y)->(∀d,Js ops x.2=some d->VRel ρ (st.tmp d) (a.tmps.getD d undef))->E5 ρ ev a.eval x.2.op->B7 ρ st.mem st.next w->
  ∀(K:Act->World->Prop) (Q:Exit->Act->World->Prop),(∀ρ' u w',(∀d,x.2.dst=some d->VRel ρ' (st'.tmp d) u)->B7 ρ' st'.mem st'.next w'->Ev ρ ρ' cx.floor st.mem st.next st'.mem st'.next w w'->(∀b ab l,El x.2.op st.eval st.mem=some b->Yr st.mem b=some ab->ρ b=some l->Jd ρ w' ab l)->K (a.put x.2.dst u) w')->
   if Region.wanted x.2 (yielded ops a.tmps) then x.2.wp P a w K Q else K (a.put x.2.dst undef) w
 calm:st'.ob=true->(Xb z x.2.op=.pure \/Xb z x.2.op=.read)-> ∀(ρ:B6) (a:Act) (w:World) (ev:Operand->B2) (mem:CD) (next:Nat),a.tmps.size=cx.n->(∀y,y∈x.2.op.operands->ev y=st.eval y)->(∀d,Js ops x.2=some d->VRel ρ (st.tmp d) (a.tmps.getD d undef))->E5 ρ ev a.eval x.2.op->B7 ρ mem next w->
  (∀t y b ab,x.2.op=.load t y->Ep x.2.op ev=some b->Yr st.mem b=some ab->Yr mem b=some ab)-> ∀(K:Act->World->Prop) (Q:Exit->Act->World->Prop),(∀u,(∀d,x.2.dst=some d->VRel ρ (st'.tmp d) u)->K (a.put x.2.dst u) w)->
   if Region.wanted x.2 (yielded ops a.tmps) then x.2.wp P a w K Q else K (a.put x.2.dst undef) w
 lit:st'.ob=true->Xb z x.2.op=.lit -> ∀(ρ:B6) (a:Act) (w:World) (ev:Operand->B2) (mem:CD) (next:Nat),a.tmps.size=cx.n->(∀y,y∈x.2.op.operands->ev y=st.eval y)->(∀d,Js ops x.2=some d->VRel ρ (st.tmp d) (a.tmps.getD d undef))->E5 ρ ev a.eval x.2.op->B7 ρ mem next w->
  ∀(K:Act->World->Prop) (Q:Exit->Act->World->Prop),(∀ρ' u w',(∀d,x.2.dst=some d->VRel ρ' (st'.tmp d) u)->B7 ρ' mem next w'->(∀b,ρ' b=ρ b)->(∀floor m,Ev ρ ρ' floor m next m next w w')->K (a.put x.2.dst u) w')->
   if Region.wanted x.2 (yielded ops a.tmps) then x.2.wp P a w K Q else K (a.put x.2.dst undef) w
theorem u0q {z:Nat} {op:Op} (h:Ny z op=false) (h2:isBirth z op=false):Xb z op=Xg op:=by unfold Xb;grind
theorem u3e {o:Oper} {t:TypeId} {z:List B2} (ho:o.op=.alloc t) (hz:E8 P t=some z) (a:Act) (w:World):
  ∃vs:Array Value,Jq ρ z vs/\(execOp a.eval o).run P w=.ok (.value (.pointer (some ⟨w.heap.size,0,none⟩))) {w with heap:=w.heap.push (.cells vs t)}:=by
 obtain ⟨dst,op,type,pos,after,guard⟩:=o;simp only at ho;subst ho;obtain ⟨_,zv,_,_,hzr,hzv⟩:=Wn (ρ:=ρ) hz;exact ⟨zv.cells,hzr,by simp_all [execOp,Instr.alloc,newVar,newRow]⟩
theorem x6e {w:World} {t:TypeId} {len:Nat} {ps:List (Nat×B2)} {qs:List (Nat×Value)} {cells:List B2} {e:TypeId} {sz:Nat} (hb:w6p P t len ps=some (cells,e,sz)) (hp:JZ ρ ps qs):
  ∃vs el,Jq ρ cells vs/\(Instr.buildSlice t len qs.toArray).run P w=.ok (.slice (some ⟨w.heap.size,0,none⟩) len len) {w with heap:=w.heap.push (.cells vs el)}/\cells.length=len*sz/\vs.size=len*sz:=by
 unfold w6p at hb;split at hb
 .rename_i e hu;split at hb
  .rename_i i zero hi hz;obtain ⟨hc,hb⟩:=Yw hb;simp only [Ae] at hc;obtain ⟨⟨hl1,hs1⟩,hle,hzl⟩:=hc;have hl1:=Ak hl1;have hs1:=Ak hs1;have hle:=Ak hle;have hzl:=Aj hzl;split at hb
   .rename_i cells dZ;obtain ⟨hn,hb⟩:=Yw hb;have hn:=Aj hn;simp only [Ad,Ac] at hb;obtain ⟨rfl,rfl,rfl⟩:=hb;obtain ⟨_,z,_,_,hzr,hzv⟩:=Wn (ρ:=ρ) hz;have fH:=Sf hzr len (len*i.size) (by rw [hzl]);obtain ⟨arr,h1,h2⟩:=SZ dZ fH hp;have hsz:arr.size=len*i.size:=(by rw [<-h2.1,hn]);have hgt': ¬2 ^ 24<len*i.size:=(by omega);have hpos:0<len*i.size:=Nat.mul_pos (by omega) (by omega);have h0: ¬len*i.size=0:=(by omega);have hsz0: ¬i.size=0:=(by omega);exact ⟨arr,e,h2,by simp [Instr.buildSlice,run_underlying hu,Zr hi,h0,hsz0,hzv,h1,newRow,hgt'],hn,hsz⟩
   .cases hb
  .cases hb
 .cases hb
theorem x2t (op:Op):Xg op≠ .lit :=by
 cases op with
 | call c=>
  obtain ⟨callee,args,argTypes⟩:=c;cases callee with
  | builtin b=>cases b <;> exact fun h=>by cases h
  | value f=>exact fun h=>by cases h
  | invoke r m=>exact fun h=>by cases h
 | _=>exact fun h=>by cases h
theorem y3s (op:Op):Xg op≠ .birth :=by
 cases op with
 | call c=>
  obtain ⟨callee,args,argTypes⟩:=c;cases callee with
  | builtin b=>cases b <;> exact fun h=>by cases h
  | value f=>exact fun h=>by cases h
  | invoke r m=>exact fun h=>by cases h
 | _=>exact fun h=>by cases h
theorem v0l {S:B4} {R:CC} (hN:Ex P) (hS:Zv P S) (hRI:FG R) (hR:Gz P R) {z:Nat} {ops:Array Oper} {x:Bool×Oper} {cx:CL} {st st':St} (hcx:cx.floor<=st.next) (h:OK z P S R ops cx x st=some st'):
  j0o S z P ops cx x st st':=by
 unfold OK at h;cases hz:Ny z x.2.op with
 | false=>
  rw [hz,Aa] at h;cases hz2:isBirth z x.2.op with
  | false=>
   rw [hz2,Aa] at h;have s:=x1b hN hS hRI hR hcx h;have hk:=u0q hz hz2;refine ⟨s.inv,fun k=> ?_,?_,?_,?_,s.slot,s.other,fun ho _=>s.does ho,fun ho k=>s.calm ho (by grind),fun _ k=> ?_⟩
   .rw [hk] at k;rcases k with k | k | k
    .exact s.stay (.inl k)
    .exact s.stay (.inr k)
    .exact absurd k (x2t _)
   .rw [hk];exact s.lift
   .rw [hk];exact s.foot
   .intro _ k hg;have k:Xg x.2.op=.alloc :=by
     grind [y3s]
    obtain ⟨t,z0,e1,e2,e3,e4,e5⟩:=s.alloc k hg;refine ⟨z0,t,e3,e4,fun ρ a w ev _ _=> ?_⟩;obtain ⟨vs,hvs,dW⟩:=u3e (P:=P) (ρ:=ρ) e1 e2 a w;exact ⟨_,vs,t,hvs,dW,fun ρ' hρ d hd=>by rw [e5 d hd];exact .ptr _ 0 _ hρ⟩
   grind [x2t]
  | true=>
   rw [hz2,Ab] at h;have hk:Xb z x.2.op=.birth :=by unfold Xb;grind
   obtain ⟨lf,o⟩:=x;obtain ⟨dst,op,type,pos,after,guard⟩:=o;simp only at h hz hz2 hk ⊢;cases op with
   | buildSlice t len parts=>
    split at h
    .cases h
    .rename_i st1 hw;obtain ⟨w1,w2,w3⟩:=Wh hw;unfold y9r at h;simp only at h;split at h
     .rename_i cells e sz hv;obtain ⟨p1,p2,p3,p4⟩:=Vg h;have fY: ∀d,dst=some d->st'.tmp d=.sl st1.next 0 len (bif cx.sym then .un sz else .ex len):=fun d hd=>by
       rcases p4 with ⟨e,_⟩ | ⟨d',e,_,he⟩
       .grind
       .rw [hd] at e;obtain rfl:=Ag e;show T.get .undef st'.env d=_;rw [he,T.get_set,AG rfl]
      have hi1:Wx cx.floor st st1:=Wx.same w1 w2 fun ho=>(w3 ho).1;have hi2:Wx cx.floor (DU st1 cells e) st':=Wx.same p1 p2 fun ho=>by grind
      obtain ⟨env1,Ft,next1,orc1,ob1⟩:=st1;simp only [DU] at p1 p2 p3 p4;simp only at w1 w2 fY;refine ⟨(hi1.trans (Wx.new _ _ _)).trans hi2,(fun k=>by grind),(fun _ _ k=>by grind),(fun _ k=>by grind),fun ho _ _=> ?_,fun d hd=> ?_,fun ho t ht=> ?_,(fun _ k=>by grind),(fun _ k=>by grind),(fun _ k=>by grind)⟩
      .have ho1:ob1=true:=(by grind);have eL:=(w3 ho1).2;refine ⟨cells,e,by grind,by rw [p2,w2],fun ρ a w ev hev hr=> ?_⟩;have fU: ∀y,St.eval ⟨env1,Ft,next1,orc1,ob1⟩ y=st.eval y:=fun y=>by cases y <;> first | rfl | exact eL _
       have hpr:JZ ρ (parts.toList.map fun p=>(p.1,St.eval ⟨env1,Ft,next1,orc1,ob1⟩ p.2)) (parts.toList.map fun p=>(p.1,a.eval p.2)):=XX parts.toList fun p hp=>by have hm:p.2∈(Op.buildSlice t len parts).operands :=(by grind [Op.operands]);rw [fU p.2,<-hev p.2 hm];exact hr p.2 hm
       obtain ⟨vs,el,hvs,dW,hn1,hn2⟩:=x6e (w:=w) hv hpr;have hpa:(parts.map fun (i,x)=>(i,a.eval x))=(parts.toList.map fun p=>(p.1,a.eval p.2)).toArray :=by
        grind
       refine ⟨.slice (some ⟨w.heap.size,0,none⟩) len len,vs,el,hvs,by simp [execOp,hpa,dW],fun ρ' hρ d hd=> ?_⟩;rw [fY d hd,w2];refine .sl _ 0 len _ ⟨w.heap.size,0,cells.length,vs.size⟩ len hρ ?_ (Aq _);cases cx.sym with
       | true=>exact ⟨by grind,by grind⟩
       | false=>exact rfl
      .grind
      .have ho1:ob1=true:=(by grind);rw [<-(w3 ho1).2 t];show T.get .undef st'.env t=T.get .undef env1 t
       grind [T.get_set]
     .cases h
    .rename_i st1 hw;obtain ⟨w1,w2,w3⟩:=Wh hw;obtain ⟨p1,p2,p3,p4⟩:=Vg h;have hi1:Wx cx.floor st st1:=Wx.same w1 w2 fun ho=>(w3 ho).1;have hi2:Wx cx.floor st1 st':=Wx.same p1 p2 fun ho=>by grind
     refine ⟨hi1.trans hi2,(fun k=>by grind),(fun _ _ k=>by grind),(fun _ k=>by grind),fun _ _ hg=> ?_,fun d hd=> ?_,fun ho t ht=> ?_,(fun _ k=>by grind),(fun _ k=>by grind),(fun _ k=>by grind)⟩
     .grind [Qa,Hb]
     .grind
     .have ho1:st1.ob=true:=(by grind);rw [<-(w3 ho1).2 t];show T.get .undef st'.env t=T.get .undef st1.env t
      grind [T.get_set]
   | _=>cases hz2
 | true=>
  rw [hz,Ab] at h;have hk:Xb z x.2.op=.lit :=by unfold Xb;rw [hz];rfl
  obtain ⟨lf,o⟩:=x;obtain ⟨dst,op,type,pos,after,guard⟩:=o;simp only at h hz hk ⊢;cases op with
  | buildSlice t len parts=>
   split at h
   .cases h
   .rename_i st1 hw;obtain ⟨w1,w2,w3⟩:=Wh hw;unfold w3k at h;simp only at h;split at h
    .rename_i v hv;obtain ⟨p1,p2,p3,p4⟩:=Vg h;have fY: ∀d,dst=some d->st'.tmp d=v:=fun d hd=>by
      rcases p4 with ⟨e,_⟩ | ⟨d',e,_,he⟩
      .grind
      .rw [hd] at e;obtain rfl:=Ag e;show T.get .undef st'.env d=v;rw [he,T.get_set,AG rfl]
     have hi1:Wx cx.floor st st1:=Wx.same w1 w2 fun ho=>(w3 ho).1;have hi2:Wx cx.floor st1 st':=Wx.same p1 p2 fun ho=>by grind
     refine ⟨hi1.trans hi2,fun _=>⟨p1.trans w1,p2.trans w2⟩,(fun _ _ k=>by grind),(fun _ k=>by grind),(fun _ k=>by grind),fun d hd=> ?_,fun ho t ht=> ?_,(fun _ k=>by grind),(fun _ k=>by grind),fun ho _ ρ a w ev mem next hsz hev hgr hr dU K Q hK=> ?_⟩
     .grind
     .have ho1:st1.ob=true:=(by grind);rw [<-(w3 ho1).2 t];show T.get .undef st'.env t=T.get .undef st1.env t
      grind [T.get_set]
     .have ho1:st1.ob=true:=(by grind);have eL:=(w3 ho1).2;have fU: ∀y,st1.eval y=st.eval y:=fun y=>by cases y <;> first | rfl | exact eL _
      rw [Kx hw ho1 hsz hgr,AG rfl];have hpr:JZ ρ (parts.toList.map fun p=>(p.1,st1.eval p.2)) (parts.toList.map fun p=>(p.1,a.eval p.2)):=XX parts.toList fun p hp=>by have hm:p.2∈(Op.buildSlice t len parts).operands :=(by grind [Op.operands]);rw [fU p.2,<-hev p.2 hm];exact hr p.2 hm
      obtain ⟨u,vs,el,dW,hu⟩:=w6j hv hpr (dU.hold w.heap.size (Aq _));have:(parts.map fun (i,x)=>(i,a.eval x))=(parts.toList.map fun p=>(p.1,a.eval p.2)).toArray :=by
       grind
      unfold Oper.wp;have hrun':(execOp a.eval ⟨dst,.buildSlice t len parts,type,pos,after,guard⟩).run P w=.ok (.value u) {w with heap:=w.heap.push (.cells vs el)}:=by simp [execOp,this,dW]
      rw [hrun'];exact hK _ u _ (fun d hd=>by grind) (dU.froze vs el) (fun _=>rfl) fun floor m=>Ev.froze dU floor m vs el
    .cases h
   .rename_i st1 hw;obtain ⟨w1,w2,w3⟩:=Wh hw;obtain ⟨p1,p2,p3,p4⟩:=Vg h;have fY: ∀d,dst=some d->st'.tmp d=.tup []:=fun d hd=>by
     rcases p4 with ⟨e,_⟩ | ⟨d',e,_,he⟩
     .grind
     .rw [hd] at e;obtain rfl:=Ag e;show T.get .undef st'.env d=_;rw [he,T.get_set,AG rfl]
    have hi1:Wx cx.floor st st1:=Wx.same w1 w2 fun ho=>(w3 ho).1;have hi2:Wx cx.floor st1 st':=Wx.same p1 p2 fun ho=>by grind
    refine ⟨hi1.trans hi2,fun _=>⟨p1.trans w1,p2.trans w2⟩,(fun _ _ k=>by grind),(fun _ k=>by grind),(fun _ k=>by grind),fun d hd=> ?_,fun ho t ht=> ?_,(fun _ k=>by grind),(fun _ k=>by grind),fun ho _ ρ a w ev mem next hsz hev hgr hr dU K Q hK=> ?_⟩
    .grind
    .have ho1:st1.ob=true:=(by grind);rw [<-(w3 ho1).2 t];show T.get .undef st'.env t=T.get .undef st1.env t
     grind [T.get_set]
    .have ho1:st1.ob=true:=(by grind);rw [Kx hw ho1 hsz hgr,Aw Bool.false_ne_true];exact hK ρ undef w (fun d hd=>by rw [fY d hd];exact .tup [] #[] rfl fun i h1 _=>by simp at h1) dU (fun _=>rfl) fun floor m=>Ev.refl _ _ _ _ _ dU.dom
  | _=>cases hz
end
section
variable {ops:Array Oper}
def Ha (ops:Array Oper) (S:Nat->Bool):Prop:= ∀j o,ops[j]? =some o->S j=true-> ∀e∈o.after.toList,Region.binds .any e=true->S e.on=true
def Hd (S:Nat->Bool) (o:Oper):Prop:= ∀e∈o.after.toList,Region.binds .any e=true->S e.on=true
def KA (ops:Array Oper) (i:Nat) (o:Oper):Prop:= ∀S,Ha ops S->Hd S o->S i=true
theorem x8j (acc:List Nat) (i:Nat): ∀(es:List Edge) (s:Nat),(es.foldl (fun s e=>bif Region.binds .any e then s||| (2 ^ e.on)||| acc.getD e.on 0 else s) s).testBit i=true->
  s.testBit i=true\/ ∃e∈es,Region.binds .any e=true/\(e.on=i\/(acc.getD e.on 0).testBit i=true)
 | [],s,h=>.inl h
 | e::es,s,h=>by
  simp only [List.foldl_cons] at h;rcases x8j acc i es _ h with h | ⟨e',he',h1,h2⟩;all_goals grind
theorem x8t (fN: ∀(j:Nat) o,ops[j]? =some o-> ∀e∈o.after.toList,Region.binds .any e=true->e.on<j): ∀(l:List Oper) (acc:List Nat),acc.length+l.length=ops.size->(∀k,l[k]? =ops[acc.length+k]?)->
  (∀k o,k<acc.length->ops[k]? =some o-> ∀i,(acc.getD k 0).testBit i=true->i<k/\KA ops i o)->
  ∀k o,ops[k]? =some o-> ∀i,((Fd l acc).getD k 0).testBit i=true->i<k/\KA ops i o
 | [],acc,dV,_,gD,k,o,ho,i,h=>by have hk:k<ops.size:=(AN.1 ho).1;simp at dV;exact gD k o (by omega) ho i h
 | x::l,acc,dV,hl,gD,k,o,ho,i,h=>by
  unfold Fd at h;refine x8t fN l (acc++[x.after.toList.foldl (fun s e=>bif Region.binds .any e then s||| (2 ^ e.on)||| acc.getD e.on 0 else s) 0]) (by grind) (fun k=>by
   have:=hl (k+1)
   simpa [AD,Nat.add_comm 1 k] using this) (fun k' o' hk' ho' i' hi'=> ?_) k o ho i h
  by_cases hlt:k'<acc.length
  .refine gD k' o' hlt ho' i' ?_
   grind
  .have hk2:k'=acc.length:=by grind
   subst hk2;have hx:ops[acc.length]? =some x:=by simpa using (hl 0).symm
   rw [hx] at ho';obtain rfl:=Ag ho';have hg:(acc++[x.after.toList.foldl (fun s e=>bif Region.binds .any e then s||| (2 ^ e.on)||| acc.getD e.on 0 else s) 0]).getD acc.length 0=x.after.toList.foldl (fun s e=>bif Region.binds .any e then s||| (2 ^ e.on)||| acc.getD e.on 0 else s) 0:=by
    grind
   rw [hg] at hi';rcases x8j acc i' _ _ hi' with h0 | ⟨e,he,hb,h1⟩
   .simp at h0
   .have hlt':=fN _ _ hx e he hb;rcases h1 with rfl | h1
    .exact ⟨hlt',fun S _ hr=>hr e he hb⟩
    .have ho2:ops[e.on]? =some (ops[e.on]'(by grind)):=(by simp);obtain ⟨q1,q2⟩:=gD e.on _ hlt' ho2 i' h1;exact ⟨by omega,fun S hc hr=>q2 S hc fun e' he' hb'=>hc e.on _ ho2 (hr e he hb) e' he' hb'⟩
theorem x5i {z:Nat} {op:Op} {k:GB} (hk:k≠ .lit) (hb:k≠ .birth):Xb z op=k↔Xg op=k/\Ny z op=false/\isBirth z op=false:=by grind [Xb]
theorem w3y {z:Nat} {op:Op} (h:Ny z op=true):Xg op=.chain :=by cases op <;> first | rfl | (cases h;done)
theorem x5j {z:Nat} {op:Op} (h:isBirth z op=true):Xg op=.chain :=by cases op <;> first | rfl | (cases h;done)
theorem x8a {z:Nat} {op:Op} {k:GB} (hk:k≠ .lit) (hb:k≠ .birth) (hc:k≠ .chain):Xb z op=k↔Xg op=k:=by
 rw [x5i hk hb]
 grind [w3y,x5j]
theorem XV {z:Nat} {op:Op}:Xb z op=.alloc ↔Xg op=.alloc :=x8a (fun h=>by cases h) (fun h=>by cases h) fun h=>by cases h
theorem x2s {z:Nat} {op:Op}:Xb z op=.read ↔Xg op=.read :=x8a (fun h=>by cases h) (fun h=>by cases h) fun h=>by cases h
theorem y8y {z:Nat} {op:Op} (h:Xb z op=.birth):isBirth z op=true:=by grind [Xb,y3s]
structure u3r (z:Nat) (ops:Array Oper):Prop where
 ord: ∀(j:Nat) o,ops[j]? =some o-> ∀e∈o.after.toList,Region.binds .any e=true->e.on<j
 guard: ∀(j:Nat) o,ops[j]? =some o->(Xb z o.op=.alloc \/Xb z o.op=.birth)->o.guard=none
 bits: ∀(j:Nat) o,ops[j]? =some o-> ∀i,((Fd ops.toList []).getD j 0).testBit i=true->i<j/\KA ops i o
 pair: ∀(i j:Nat) p o,i<j->ops[i]? =some p->ops[j]? =some o->KA ops i o\/(p.apart ops o=true/\w3r (Xb z p.op) (Xb z o.op)=true/\(Xb z o.op=.read ->ES ops i=true)/\(Xb z p.op=.read ->ES ops j=true))
 dst: ∀(i j:Nat) p o d,i<j->ops[i]? =some p->ops[j]? =some o->p.dst=some d->o.dst≠some d
 alloc: ∀(i j:Nat) p o,i<j->ops[i]? =some p->ops[j]? =some o->Xb z o.op=.alloc ->p.apart ops o=true
 birth: ∀(i j:Nat) p o,i<j->ops[i]? =some p->ops[j]? =some o->Xb z o.op=.birth -> ¬(Xb z p.op=.chain \/Xb z p.op=.call)
theorem z8w {z:Nat} (h:Nd z ops=true):u3r z ops:=by
 have hj: ∀(j:Nat) o,ops[j]? =some o->(o.after.toList.all (fun e=> !Region.binds .any e||Nat.ble (e.on+1) j)=true/\(!(Xg o.op == .alloc ||isBirth z o.op)||o.guard.isNone)=true)/\ ∀(i:Nat) p,i<j->ops[i]? =some p->w8a z ops i j p o=true:=by
  intro j o ho;have hlt:j<ops.size:=(AN.1 ho).1;have:=At.1 h j (A6.2 hlt)
  grind
 have ord: ∀(j:Nat) o,ops[j]? =some o-> ∀e∈o.after.toList,Region.binds .any e=true->e.on<j:=by intro j o ho e he hb;have:=At.1 (hj j o ho).1.1 e he;rw [hb] at this;exact Ak (by grind)
 have bits:=x8t ord ops.toList [] (by simp) (fun k=>by simp) (fun k o hk=>by simp at hk);refine ⟨ord,fun j o ho hk=> ?_,fun j o ho i hb=>bits j o ho i hb,fun i j p o hij hp ho=> ?_,fun i j p o d hij hp ho hd=> ?_,fun i j p o hij hp ho hk=> ?_,fun i j p o hij hp ho hk hc=> ?_⟩
 .have:=(hj j o ho).1.2;rcases hk with hk | hk;all_goals simp_all [XV,y8y]
 .have hpo:=(hj j o ho).2 i p hij hp;unfold w8a at hpo;simp only [Ae,Bs] at hpo;cases hb:((Fd ops.toList []).getD j 0).testBit i with
  | true=>grind
  | false=>
   right;rcases hpo.1.1.1 with h1 | ⟨h1,h2⟩
   .grind
   .have hi:i<ops.size:=(AN.1 hp).1;have hjl:j<ops.size:=(AN.1 ho).1;refine ⟨h1,h2,fun hr=> ?_,fun hr=> ?_⟩
    .unfold ES;rw [List.any_eq_true];refine ⟨j,A6.2 hjl,?_⟩;rw [ho,Option.any_some,x2s.1 hr,hb];have:Nat.ble (i+1) j=true:=AZ hij
     grind
    .unfold ES;rw [List.any_eq_true];refine ⟨i,A6.2 hi,?_⟩;rw [hp,Option.any_some,x2s.1 hr,hb];have:Nat.ble (i+1) j=true:=AZ hij
     grind
 all_goals grind [w8a,XV,y8y]
theorem Jn {z:Nat} {i:Nat} {o:Oper} (ho:ops[i]? =some o):isAlloc ops i=true↔Xb z o.op=.alloc :=by grind [XV,isAlloc]
theorem y0x (i:Nat):i∈Yb ops↔i<ops.size:=by grind [Yb]
theorem Xi :(Yb ops).length =ops.size:=by
 unfold Yb;rw [AP,<-List.countP_eq_length_filter,<-List.countP_eq_length_filter];have:=List.length_eq_countP_add_countP (isAlloc ops) (l:=List.range ops.size)
 grind
def Ord (ops:Array Oper) (i j:Nat):Prop:=(isAlloc ops i=true/\isAlloc ops j=false)\/(isAlloc ops i=isAlloc ops j/\i<j)
theorem y0w :(Yb ops).Pairwise (Ord ops):=by
 unfold Yb;rw [BE];have hr:(List.range ops.size).Pairwise (· < ·):=List.pairwise_lt_range;refine ⟨?_,?_,?_⟩
 .refine ((hr.filter _).imp_of_mem fun {a b} ha hb h=> ?_);have h1:=(AX.1 ha).2;have h2:=(AX.1 hb).2;exact .inr ⟨h1.trans h2.symm,h⟩
 .refine ((hr.filter _).imp_of_mem fun {a b} ha hb h=> ?_);have h1:=(AX.1 ha).2;have h2:=(AX.1 hb).2;refine .inr ⟨?_,h⟩
  grind
 .intro a ha b hb;have h1:=(AX.1 ha).2;have h2:=(AX.1 hb).2;exact .inl ⟨h1,by grind⟩
theorem x5m {k1 k2:Nat} (h:k1<k2) (h2:k2<(Yb ops).length):Ord ops ((Yb ops)[k1]'(by omega)) (Yb ops)[k2]:=
 AY.1 y0w k1 k2 (by omega) h2 h
end
def UO (ops:Array Oper) (x y:Ds):Prop:=clash x.2.1 y.2.2=true\/clash x.2.2 y.2.1=true->ordered ops x.1 y.1=true
theorem w4m {ops:Array Oper} {x y:Ds} (h:w9f ops x y=true):UO ops x y:=by
 intro hc
 grind [w9f]
theorem z4s {z:Nat} {P:Program} {S:B4} {R:CC} {ops:Array Oper} {cx:CL}: ∀(l:List (Nat×Bool×Oper)) (acc:List Ds) (st st':St),Sd z P S R ops cx l acc st=some st'->
  ∃f:Nat->St,f 0=st/\f l.length=st'/\(∀(k:Nat) (h:k<l.length),OK z P S R ops cx l[k].2 (f k)=some (f (k+1)))/\
   (∀(k:Nat) (h:k<l.length),∀y∈acc,UO ops (GU S l[k] (f k).eval) y\/lateF z ops l[k] (f k).eval (f k).mem y=true)/\
   ∀(q k:Nat) (hq:q<k) (h:k<l.length),UO ops (GU S l[k] (f k).eval) (GU S (l[q]'(by omega)) (f q).eval)\/lateF z ops l[k] (f k).eval (f k).mem (GU S (l[q]'(by omega)) (f q).eval)=true
 | [],acc,st,st',h=>by have h:some st=some st':=h;obtain rfl:=Ag h;exact ⟨fun _=>st,rfl,rfl,fun k h=>by simp at h,fun k h=>by simp at h,fun q k _ h=>by simp at h⟩
 | x::l,acc,st,st',h=>by
  have h:(bif acc.all (fun y=>w9f ops (GU S x st.eval) y||lateF z ops x st.eval st.mem y) then
    match OK z P S R ops cx x.2 st with
    | some st'=>Sd z P S R ops cx l (GU S x st.eval::acc) st'
    | none=>none
   else none)=some st':=h
  obtain ⟨gD,h⟩:=Yw h;split at h
  .rename_i st1 h1;obtain ⟨f,f0,fn,fs,fa,fp⟩:=z4s l _ st1 st' h;refine ⟨fun k=>match k with | 0=>st | k+1=>f k,rfl,fn,fun k hk=> ?_,fun k hk y hy=> ?_,fun q k hqk hk=> ?_⟩;all_goals grind [w4m]
  .cases h
theorem x6m {S:B4} {op:Op} (h:Xg op=.chain) (ev:Operand->B2):Ek S op ev=EO op ev:=by
 cases op with
 | call c=>
  obtain ⟨callee,args,argTypes⟩:=c;cases callee with
  | value f=>cases h
  | _=>rfl
 | _=>rfl
theorem z5a (p q:Nat->Bool) (i:Nat): ∀(n:Nat),(∀k,k≠i->q k=p k)->p i=true->q i=false->i<n->(List.range n).countP q+1=(List.range n).countP p
 | 0,_,_,_,h=>absurd h (AL _)
 | n+1,hpq,hp,hq,h=>by
  rw [Bj,Bx,Bx];by_cases hi:i<n
  .have:=z5a p q i n hpq hp hq hi
   grind
  .have hin:i=n:=by omega
   subst hin;have e:(List.range i).countP q=(List.range i).countP p:=List.countP_congr fun k hk=>by
    grind
   grind
section
variable {P:Program}
theorem B7.unborn {ρ:B6} {mem:CD} {next:Nat} {w:World} (h:B7 ρ mem next w) (o:Option CG):B7 ρ (Wb mem next o) (next+1) w:=by
 have ne: ∀b l,ρ b=some l->b≠next:=fun b l e=>by have:=h.dom b l e;omega
 refine ⟨fun b l e=>by have:=h.dom b l e;omega,fun b b' l l' e e' he hs hs'=> ?_,fun b l ab e hm=> ?_,h.old,fun b l e hs=>h.sep b l e (by rwa [Zu _ _ (ne b l e)] at hs),h.real,fun b hb=>by rw [Zu _ _ (by omega)];exact h.bd b (by omega),fun j l e=>Bl (h.ldom j l e)⟩
 .rw [Zu _ _ (ne b l e)] at hs;rw [Zu _ _ (ne b' l' e')] at hs';exact h.inj b b' l l' e e' he hs hs'
 .rw [Zu _ _ (ne b l e)] at hm;exact h.blk b l ab e hm
theorem B7.birth {ρ:B6} {mem:CD} {next:Nat} {w:World} (h:B7 ρ mem next w) {b:Nat} {cs:List B2} {ty:TypeId} (hb:b<next) (hn:ρ b=none) (hm:Yr mem b=some ⟨cs,ty,none⟩) {vs:Array Value} (el:TypeId) (hv:Jq ρ cs vs):
  B7 (Ur ρ b ⟨w.heap.size,0,cs.length,vs.size⟩) mem next {w with heap:=w.heap.push (.cells vs el)}:=by
 have hle:=N7 (l:=⟨w.heap.size,0,cs.length,vs.size⟩) hn;have eD: ∀c l,Ur ρ b ⟨w.heap.size,0,cs.length,vs.size⟩ c=some l->(c=b/\l=⟨w.heap.size,0,cs.length,vs.size⟩)\/(c≠b/\ρ c=some l):=fun c l e=>by
  grind [Ju]
 refine ⟨fun c l e=> ?_,fun c c' l l' e e' hbl hs hs'=> ?_,fun c l ab e hc=> ?_,fun k o e=> ?_,fun c l e=> ?_,fun c l e=> ?_,h.bd,h.ldom⟩
 .rcases eD c l e with ⟨rfl,_⟩ | ⟨_,e⟩
  .exact hb
  .exact h.dom c l e
 .rcases eD c l e with ⟨hc,hl⟩ | ⟨hc,e2⟩ <;> rcases eD c' l' e' with ⟨hc',hl'⟩ | ⟨hc',e2'⟩
  .rw [hc,hc']
  .have:=h.real c' l' e2';grind
  .have:=h.real c l e2;grind
  .exact h.inj c c' l l' e2 e2' hbl hs hs'
 .rcases eD c l e with ⟨rfl,rfl⟩ | ⟨_,e⟩
  .rw [hm] at hc;obtain rfl:=Ag hc;have h1:=hv.1;refine ⟨rfl,by grind,(fun A e=>by cases e),vs,el,by simp,by simp,fun i hi=> ?_⟩;have h2:i<vs.size:=by grind
   exact ⟨vs[i],by grind,(hv.2 i hi h2).mono hle⟩
  .refine (h.blk c l ab e hc).world hle ?_;have:=h.real c l e
   grind
 .have hk:=h.old k o e
  grind
 .intro hs;rcases eD c l e with ⟨rfl,rfl⟩ | ⟨_,e⟩
  .exact h.hold _ (Aq _)
  .exact h.sep c l e hs
 .rcases eD c l e with ⟨rfl,rfl⟩ | ⟨_,e⟩
  .simp
  .have:=h.real c l e;simp;omega
structure Dd (S:B4) (z:Nat) (P:Program) (ops:Array Oper) (cx:CL) (st:St) (f:Nat->St):Prop where
 chk:u3r z ops
 f0:f 0=st
 hcx:cx.floor<=st.next
 ob: ∀k,k<=ops.size->(f k).ob =true
 step: ∀(k:Nat) (h:k<(Yb ops).length),j0o S z P ops cx (ES ops (Yb ops)[k],ops.getD (Yb ops)[k] default) (f k) (f (k+1))
 foot: ∀(q k:Nat) (hq:q<k) (h:k<(Yb ops).length),UO ops (GU S ((Yb ops)[k],ES ops (Yb ops)[k],ops.getD (Yb ops)[k] default) (f k).eval) (GU S ((Yb ops)[q],ES ops (Yb ops)[q],ops.getD (Yb ops)[q] default) (f q).eval)\/
  lateF z ops ((Yb ops)[k],ES ops (Yb ops)[k],ops.getD (Yb ops)[k] default) (f k).eval (f k).mem (GU S ((Yb ops)[q],ES ops (Yb ops)[q],ops.getD (Yb ops)[q] default) (f q).eval)=true
variable {Sp:B4} {z:Nat} {ops:Array Oper} {cx:CL} {st:St} {f:Nat->St}
def B9 (ops:Array Oper) (k:Nat):Nat:=(Yb ops).getD k ops.size
theorem j0g {k:Nat} (h:k<ops.size):B9 ops k<ops.size:=by
 have hl:k<(Yb ops).length :=by rw [Xi];exact h
 have:B9 ops k=(Yb ops)[k]:=by simp [B9,hl]
 rw [this];exact (y0x _).1 (AV hl)
theorem FZ {k1 k2:Nat} (h:k1<k2) (h2:k2<ops.size):Ord ops (B9 ops k1) (B9 ops k2):=by grind [Xi,x5m,B9]
theorem t5j {i:Nat} (h:i<ops.size): ∃k,k<ops.size/\B9 ops k=i:=by obtain ⟨k,hk,e⟩:=AJ ((y0x (ops:=ops) i).2 h);exact ⟨k,by rw [Xi] at hk;exact hk,by simp [B9,hk,e]⟩
theorem Dd.step' (g:Dd Sp z P ops cx st f) {k:Nat} (h:k<ops.size): ∃o,ops[B9 ops k]? =some o/\j0o Sp z P ops cx (ES ops (B9 ops k),o) (f k) (f (k+1)):=by
 have hl:k<(Yb ops).length :=by rw [Xi];exact h
 have e:B9 ops k=(Yb ops)[k]:=by simp [B9,hl]
 have hlt:=j0g h;refine ⟨ops[B9 ops k],by simp [hlt],?_⟩;have:=g.step k hl;rw [<-e] at this;have hd:ops.getD (B9 ops k) default=ops[B9 ops k]:=by simp [hlt]
 grind
theorem Dd.foot' (g:Dd Sp z P ops cx st f) {q k:Nat} (hq:q<k) (h:k<ops.size) {o x:Oper} (ho:ops[B9 ops k]? =some o) (hx:ops[B9 ops q]? =some x):
  UO ops (B9 ops k,Ep o.op (f k).eval,Ek Sp o.op (f k).eval) (B9 ops q,Ep x.op (f q).eval,Ek Sp x.op (f q).eval)\/lateF z ops (B9 ops k,ES ops (B9 ops k),o) (f k).eval (f k).mem (B9 ops q,Ep x.op (f q).eval,Ek Sp x.op (f q).eval)=true:=by
 have hl:k<(Yb ops).length :=by rw [Xi];exact h
 have hl2:q<(Yb ops).length :=by omega
 have e:B9 ops k=(Yb ops)[k]:=by simp [B9,hl]
 have e2:B9 ops q=(Yb ops)[q]:=by simp [B9,hl2]
 have:=g.foot q k hq hl;rw [<-e,<-e2] at this;have hd:ops.getD (B9 ops k) default=o:=by simp [ho]
 have hd2:ops.getD (B9 ops q) default=x:=by simp [hx]
 rw [hd,hd2] at this;exact this
theorem Dd.next_le (g:Dd Sp z P ops cx st f): ∀{a b:Nat},a<=b->b<=ops.size->(f a).next <=(f b).next :=by
 intro a b hab hb
 induction b with
 | zero=>grind
 | succ b ih=>
  by_cases e:a=b+1
  .grind
  .obtain ⟨o,_,s⟩:=g.step' (k:=b) (by omega);exact AF (ih (by omega) (by omega)) s.inv.nxt
theorem Dd.bd (g:Dd Sp z P ops cx st f) (h0: ∀b,st.next<=b->Yr st.mem b=none): ∀{k:Nat},k<=ops.size-> ∀b,(f k).next <=b->Yr (f k).mem b=none:=by
 intro k hk
 induction k with
 | zero=>rw [g.f0];exact h0
 | succ k ih=>obtain ⟨o,_,s⟩:=g.step' (k:=k) (by omega);exact s.inv.bd (ih (by omega))
theorem Dd.slot_stays (g:Dd Sp z P ops cx st f) {t:Tmp}: ∀{a b:Nat},a<=b->b<=ops.size->(∀k o,a<=k->k<b->ops[B9 ops k]? =some o->o.dst≠some t)->(f b).tmp t=(f a).tmp t:=by
 intro a b hab hb hno
 induction b with
 | zero=>grind
 | succ b ih=>
  by_cases e:a=b+1
  .subst e;rfl
  .obtain ⟨o,ho,s⟩:=g.step' (k:=b) (by omega);rw [s.other (g.ob _ hb) t (hno b o (by omega) (by omega) ho)]
   grind
def EU (z:Nat) (o:Oper):Prop:=Xb z o.op=.chain \/Xb z o.op=.call
def OH (z:Nat) (o:Oper):Prop:=Xb z o.op=.pure \/Xb z o.op=.lit
def FB (z:Nat) (o:Oper):Prop:=Xb z o.op=.alloc \/Xb z o.op=.birth
theorem OE (z:Nat) (o:Oper):OH z o\/Xb z o.op=.read \/FB z o\/EU z o:=by unfold EU OH FB;cases Xb z o.op <;> simp
theorem Dd.mem_stays (g:Dd Sp z P ops cx st f): ∀{a b:Nat},a<=b->b<=ops.size->(∀k o,a<=k->k<b->ops[B9 ops k]? =some o->OH z o\/Xb z o.op=.read)->(f b).mem =(f a).mem /\(f b).next =(f a).next :=by
 intro a b hab hb hno
 induction b with
 | zero=>grind
 | succ b ih=>
  by_cases e:a=b+1
  .grind
  .obtain ⟨o,ho,s⟩:=g.step' (k:=b) (by omega);obtain ⟨e1,e2⟩:=s.stay (by rcases hno b o (by omega) (by omega) ho with (k | k) | k <;> simp [k])
   grind
theorem Dd.blk_stays (g:Dd Sp z P ops cx st f) {x:Nat}: ∀{a b:Nat},a<=b->b<=ops.size->x<(f a).next ->
  (∀k o,a<=k->k<b->ops[B9 ops k]? =some o->OH z o\/Xb z o.op=.read \/(Xb z o.op=.call /\ES ops (B9 ops k)=true/\Ek Sp o.op (f k).eval ≠some x)\/(Xb z o.op=.chain /\EO o.op (f k).eval ≠some x)\/FB z o)->Yr (f b).mem x=Yr (f a).mem x:=by
 intro a b hab hb hx hno
 induction b with
 | zero=>grind
 | succ b ih=>
  by_cases e:a=b+1
  .subst e;rfl
  .obtain ⟨o,ho,s⟩:=g.step' (k:=b) (by omega);have ih:=ih (by omega) (by omega) fun k o h1 h2=>hno k o h1 (by omega);rw [<-ih];rcases hno b o (by omega) (by omega) ho with h1 | h1 | ⟨h1,h2,h3⟩ | ⟨h1,h2⟩ | h1
   .rw [(s.stay (by rcases h1 with k | k <;> simp [k])).1]
   .rw [(s.stay (.inr (.inl h1))).1]
   .exact s.lift (g.ob _ hb) h2 h1 x (A0 hx (g.next_le (by omega) (by omega))) h3
   .exact s.foot (g.ob _ hb) h1 x (A0 hx (g.next_le (by omega) (by omega))) h2
   .obtain ⟨cells,ty,e1,_,_⟩:=s.fresh (g.ob _ hb) h1 (g.chk.guard _ o ho h1);have:=A0 hx (g.next_le (a:=a) (b:=b) (by omega) (by omega));rw [e1,Zu _ _ (by omega)]
structure Inv (z:Nat) (P:Program) (D:List Deferred) (ops:Array Oper) (cx:CL) (st:St) (f:Nat->St) (ρ0:B6) (w0:World) (S:Nat->Bool) (p:Nat) (ρ:B6) (a:Act) (w:World):Prop where
 closed:Ha ops S
 defers:a.defers=D
 tsz:a.tmps.size=cx.n
 done: ∀k o d,k<ops.size->ops[B9 ops k]? =some o->S (B9 ops k)=true->o.dst=some d->VRel ρ ((f (k+1)).tmp d) (a.tmps.getD d undef)
 undone: ∀t,(∀i o,ops[i]? =some o->S i=true->o.dst≠some t)->VRel ρ (st.tmp t) (a.tmps.getD t undef)
 ple:p<=ops.size
 past: ∀k o,k<ops.size->ops[B9 ops k]? =some o->FB z o->k<p
 chain: ∀k o,k<ops.size->ops[B9 ops k]? =some o->EU z o->(S (B9 ops k)=true↔k<p)
 rel:B7 ρ (f p).mem (f p).next w
 ev:Ev ρ0 ρ cx.floor st.mem st.next (f p).mem (f p).next w0 w
 late: ∀k q o x b ab,k<q->q<p->q<ops.size->ops[B9 ops k]? =some o->ops[B9 ops q]? =some x->S (B9 ops k)=false->EU z x->HI z ops (B9 ops k) (B9 ops q)=true->El x.op (f q).eval (f q).mem =some b->Yr (f q).mem b=some ab->B7 ρ (Wb .leaf b (some ab)) (f p).next w
 allocs: ∀k o,k<ops.size->ops[B9 ops k]? =some o->FB z o->S (B9 ops k)=false->st.next<=(f k).next /\(f k).next <(f p).next /\ρ (f k).next =none/\Yr (f p).mem (f k).next =Yr (f (k+1)).mem (f k).next
theorem y8t {o:Oper} {t:Tmp} (h:Operand.tmp t∈o.op.operands):t∈o.looksAt ops:=by unfold Oper.looksAt;rw [AI];left;rw [List.mem_filterMap];exact ⟨.tmp t,Array.mem_toList_iff.2 h,rfl⟩
theorem x5e {o:Oper} {d:Tmp} (h:Js ops o=some d):d∈o.looksAt ops:=by grind [Oper.looksAt,Js]
theorem w6a (g:Dd Sp z P ops cx st f) {i:Nat} {o:Oper} (ho:ops[i]? =some o) (hk:Xb z o.op=.alloc):o.looksAt ops=[]:=by
 unfold Oper.looksAt;rw [g.chk.guard i o ho (.inl hk)];rw [XV] at hk;obtain ⟨dst,op,type,pos,after,guard⟩:=o;simp only at hk ⊢;cases op with
 | alloc t=>rfl
 | call c=>
  obtain ⟨callee,args,argTypes⟩:=c;cases callee with
  | builtin b=>cases b <;> cases hk
  | value f=>cases hk
  | invoke r m=>cases hk
 | _=>cases hk
section
variable {D:List Deferred} {ρ0:B6} {w0:World} {S:Nat->Bool} {p:Nat} {ρ:B6} {a:Act} {w:World}
theorem x5n (g:Dd Sp z P ops cx st f) {i j:Nat} {x y:Oper} {d:Tmp} (hi:ops[i]? =some x) (hj:ops[j]? =some y) (hx:x.dst=some d) (hy:y.dst=some d):i=j:=by
 rcases Bm i j with h | h | h
 .exact absurd hy (g.chk.dst i j x y d h hi hj hx)
 .exact h
 .exact absurd hx (g.chk.dst j i y x d h hj hi hy)
theorem Inv.looks (g:Dd Sp z P ops cx st f) (I:Inv z P D ops cx st f ρ0 w0 S p ρ a w) {k:Nat} {o:Oper} (hk:k<ops.size) (ho:ops[B9 ops k]? =some o) (hns:S (B9 ops k)=false) (eG:Hd S o) {t:Tmp} (ht:t∈o.looksAt ops):
  VRel ρ ((f k).tmp t) (a.tmps.getD t undef):=by
 by_cases hw: ∃i x,ops[i]? =some x/\S i=true/\x.dst=some t
 .obtain ⟨i,x,hx,hs,hd⟩:=hw;have hil:i<ops.size:=(AN.1 hx).1;obtain ⟨k',hk',rfl⟩:=t5j hil;have hne:k'≠k:=fun e=>by grind
  have hlt:k'<k:=by
   rcases A7 k' k with h | h
   .exact h
   .exfalso;have hkk:k<k':=(by omega);rcases Bm (B9 ops k) (B9 ops k') with hij | hij | hij
    .rcases g.chk.pair _ _ _ _ hij ho hx with hf | ⟨hap,_⟩
     .have:=hf S I.closed (fun e he hb=>I.closed _ _ hx hs e he hb)
      grind
     grind [Oper.apart_spec]
    .grind
    .rcases FZ hkk hk' with ⟨h1,_⟩ | ⟨_,h2⟩;all_goals grind [w6a,Jn]
  have hst:(f k).tmp t=(f (k'+1)).tmp t:=g.slot_stays (by omega) (by omega) fun q y h1 h2 hy hyd=>by
   have:=x5n g hx hy hd hyd;have e:B9 ops k'=B9 ops q:=this;rcases FZ (ops:=ops) (k1:=k') (k2:=q) (by omega) (by omega) with ⟨h1,h2⟩ | ⟨_,h2⟩;all_goals grind
  rw [hst];exact I.done k' x t hk' hx hs hd
 .have hno: ∀i x,ops[i]? =some x->S i=true->x.dst≠some t:=fun i x hx hs hd=>hw ⟨i,x,hx,hs,hd⟩;have hst:(f k).tmp t=(f 0).tmp t:=g.slot_stays (AA _) (by omega) fun q y _ h2 hy hyd=>by
   have hqs:S (B9 ops q)=false:=by
    grind
   rcases Bm (B9 ops q) (B9 ops k) with hij | hij | hij
   .rcases g.chk.pair _ _ _ _ hij hy ho with hf | ⟨hap,_⟩
    .have:=hf S I.closed eG
     grind
    grind [Oper.apart_spec]
   .rcases FZ (ops:=ops) h2 hk with ⟨h1,h3⟩ | ⟨_,h3⟩;all_goals grind
   .rcases FZ (ops:=ops) h2 hk with ⟨h1,_⟩ | ⟨_,h3⟩
    .have hap:=g.chk.alloc _ _ _ _ hij ho hy ((Jn (z:=z) hy).1 h1)
     grind [Oper.apart_spec]
    .omega
  rw [hst,g.f0];exact I.undone t hno
theorem Inv.operands (g:Dd Sp z P ops cx st f) (I:Inv z P D ops cx st f ρ0 w0 S p ρ a w) {k:Nat} {o:Oper} (hk:k<ops.size) (ho:ops[B9 ops k]? =some o) (hns:S (B9 ops k)=false) (eG:Hd S o):E5 ρ (f k).eval a.eval o.op:=by
 intro x hx;cases x with
 | tmp t=>exact I.looks g hk ho hns eG (y8t hx)
 | const v=>exact v9m v
 | global g=>exact .undef _
 | func f=>exact .fn f [] #[] rfl fun i h1 _=>by simp at h1
theorem Inv.slots (g:Dd Sp z P ops cx st f) (I:Inv z P D ops cx st f ρ0 w0 S p ρ a w) {k:Nat} {o:Oper} (hk:k<ops.size) (ho:ops[B9 ops k]? =some o) (hns:S (B9 ops k)=false) {ρ':B6} (hle:ρ.le ρ') {u:Value}
  (eP: ∀d,o.dst=some d->VRel ρ' ((f (k+1)).tmp d) u) {S':Nat->Bool} (hS: ∀i,S' i=(S i||i == B9 ops k)):
  (∀k' x d,k'<ops.size->ops[B9 ops k']? =some x->S' (B9 ops k')=true->x.dst=some d->VRel ρ' ((f (k'+1)).tmp d) ((a.put o.dst u).tmps.getD d undef))/\
  (∀t,(∀i x,ops[i]? =some x->S' i=true->x.dst≠some t)->VRel ρ' (st.tmp t) ((a.put o.dst u).tmps.getD t undef)):=by
 have other: ∀t,o.dst≠some t->(a.put o.dst u).tmps.getD t undef=a.tmps.getD t undef:=fun t ht=>by
  cases hd:o.dst with
  | none=>rfl
  | some d=>simp_all [Act.put]
 obtain ⟨_,ho',s⟩:=g.step' hk;rw [ho] at ho';obtain rfl:=Ag ho';refine ⟨fun k' x d hk' hx hs hd=> ?_,fun t hno=> ?_⟩
 .by_cases hod:o.dst=some d
  .have e:=x5n g ho hx hod hd;have hkk:k'=k:=by
    rcases Bm k' k with h | h | h
    .rcases FZ (ops:=ops) h hk with ⟨h1,h3⟩ | ⟨_,h3⟩;all_goals grind
    .exact h
    .rcases FZ (ops:=ops) h hk' with ⟨h1,h3⟩ | ⟨_,h3⟩;all_goals grind
   subst hkk;have hlt:d<a.tmps.size:=by rw [I.tsz];exact s.slot d hod
   simp_all [Act.put]
  .rw [other d hod];have hne:B9 ops k'≠B9 ops k:=fun e=>by
    grind
   have hs':S (B9 ops k')=true:=by
    grind
   exact (I.done k' x d hk' hx hs' hd).mono hle
 .have hod:o.dst≠some t:=hno _ o ho (by rw [hS];simp);rw [other t hod];exact (I.undone t fun i x hx hs=>hno i x hx (by grind)).mono hle
theorem Inv.closes (I:Inv z P D ops cx st f ρ0 w0 S p ρ a w) {i:Nat} {o:Oper} (ho:ops[i]? =some o) (eG:Hd S o) {S':Nat->Bool} (hS: ∀j,S' j=(S j||j == i)):Ha ops S':=by
 intro j x hx hs e he hb;rw [hS] at hs ⊢;by_cases hj:j=i
 .subst hj;rw [ho] at hx;obtain rfl:=Ag hx;rw [eG e he hb];rfl
 .have:S j=true:=by grind
  rw [I.closed j x hx this e he hb];rfl
theorem v3h {i:Nat} {l:Bool} {o:Oper} {ev:Operand->B2} {mem:CD} {y:Ds} (h:Xb z o.op=.read):lateF z ops (i,l,o) ev mem y=false:=by
 have hk:El o.op ev mem=none:=by
  unfold El;split
  .rename_i e;rw [e] at h;cases h
  .rfl
 unfold lateF
 grind
theorem v3g {i j b:Nat} {l:Bool} {x:Oper} {ev:Operand->B2} {mem:CD} {wr:Option Nat} (h:lateF z ops (i,l,x) ev mem (j,some b,wr)=true):HI z ops j i=true/\El x.op ev mem=some b:=by
 unfold lateF at h;split at h
 .rename_i j' b' e;simp only [Ac,Ad] at e;obtain ⟨rfl,rfl,rfl⟩:=e;split at h;all_goals simp_all
 .cases h
theorem Inv.between (g:Dd Sp z P ops cx st f) (I:Inv z P D ops cx st f ρ0 w0 S p ρ a w) {k:Nat} {o:Oper} (hk:k<ops.size) (ho:ops[B9 ops k]? =some o) (hns:S (B9 ops k)=false) (eG:Hd S o) (gB:Xb z o.op=.read) {b:Nat} (hb:Ep o.op (f k).eval =some b):
  (∀q x,p<=q->q<k->ops[B9 ops q]? =some x->OH z x\/Xb z x.op=.read \/(Xb z x.op=.call /\ES ops (B9 ops q)=true/\Ek Sp x.op (f q).eval ≠some b)\/(Xb z x.op=.chain /\EO x.op (f q).eval ≠some b)\/FB z x)/\
  (∀q x,k<=q->q<p->ops[B9 ops q]? =some x->OH z x\/Xb z x.op=.read \/(Xb z x.op=.call /\ES ops (B9 ops q)=true/\Ek Sp x.op (f q).eval ≠some b)\/(Xb z x.op=.chain /\EO x.op (f q).eval ≠some b)\/FB z x\/(EU z x/\HI z ops (B9 ops k) (B9 ops q)=true/\El x.op (f q).eval (f q).mem =some b)):=by
 have nal:isAlloc ops (B9 ops k)=false:=by
  grind [Jn]
 constructor
 .intro q x h1 h2 hx;rcases OE z x with h | h | h | h
  .exact .inl h
  .grind
  .grind
  .have hqs:S (B9 ops q)=false:=by
    cases e:S (B9 ops q) with
    | false=>rfl
    | true=>have:=(I.chain q x (by omega) hx h).1 e;omega
   have hlt:B9 ops q<B9 ops k:=by
    rcases FZ (ops:=ops) h2 hk with ⟨h3,_⟩ | ⟨_,h3⟩
    .have:=I.past q x (by omega) hx (.inl ((Jn (z:=z) hx).1 h3));omega
    .exact h3
   rcases g.chk.pair _ _ _ _ hlt hx ho with hf | ⟨_,hkd,hl,_⟩
   .have:=hf S I.closed eG
    grind
   .have no:Ek Sp x.op (f q).eval ≠some b:=fun hw=>by
     have:=(g.foot' h2 hk ho hx).resolve_right (fun hl=>by
      rw [v3h gB] at hl;cases hl) (.inl (by rw [hb,hw];exact Nat.beq_refl b))
     unfold ordered at this;simp only [Bs] at this;rcases this with this | this
     .have:=(g.chk.bits _ _ hx _ this).1;omega
     .have:=(g.chk.bits _ _ ho _ this).2 S I.closed eG
      grind
    rcases h with h | h;all_goals simp_all [x6m,x5i]
 .intro q x h1 h2 hx;have hp:=I.ple;rcases OE z x with h | h | h | h
  .exact .inl h
  .grind
  .grind
  .have hqs:S (B9 ops q)=true:=(I.chain q x (by omega) hx h).2 h2;have hne:q≠k:=fun e=>by grind
   have hlt:B9 ops k<B9 ops q:=by
    rcases FZ (ops:=ops) (k1:=k) (k2:=q) (by omega) (by omega) with ⟨h3,_⟩ | ⟨_,h3⟩;all_goals grind
   rcases g.chk.pair _ _ _ _ hlt ho hx with hf | ⟨_,hkd,_,hl⟩
   .have:=hf S I.closed fun e he hb=>I.closed _ _ hx hqs e he hb
    grind
   .rcases g.foot' (q:=k) (k:=q) (by omega) (by omega) hx ho with hfo | hla
    rotate_left
    .grind [v3g]
    have no:Ek Sp x.op (f q).eval ≠some b:=fun hw=>by
     have:=hfo (.inr (by rw [hb,hw];exact Nat.beq_refl b));unfold ordered at this;simp only [Bs] at this;rcases this with this | this
     .have:=(g.chk.bits _ _ ho _ this).1;omega
     .have:=(g.chk.bits _ _ hx _ this).2 S I.closed fun e he hb=>I.closed _ _ hx hqs e he hb
      grind
    rcases h with h | h;all_goals simp_all [x6m,x5i]
theorem Inv.next_chain (g:Dd Sp z P ops cx st f) (I:Inv z P D ops cx st f ρ0 w0 S p ρ a w) {k:Nat} {o:Oper} (hk:k<ops.size) (ho:ops[B9 ops k]? =some o) (hns:S (B9 ops k)=false) (eG:Hd S o) (hch:EU z o):
  p<=k/\(∀q x,q<ops.size->ops[B9 ops q]? =some x->EU z x->(S (B9 ops q)=true↔q<k)):=by
 have nal:isAlloc ops (B9 ops k)=false:=by
  cases e:isAlloc ops (B9 ops k) with
  | false=>rfl
  | true=>have:=(Jn (z:=z) ho).1 e;rcases hch with h | h <;> rw [h] at this <;> cases this
 have key: ∀q x,q<ops.size->ops[B9 ops q]? =some x->EU z x->(S (B9 ops q)=true↔q<k):=by
  intro q x hq hx hxc;have nalx:isAlloc ops (B9 ops q)=false:=by
   cases e:isAlloc ops (B9 ops q) with
   | false=>rfl
   | true=>have:=(Jn (z:=z) hx).1 e;rcases hxc with h | h <;> rw [h] at this <;> cases this
  have nok: ∀(x y:Oper),EU z x->EU z y->w3r (Xb z x.op) (Xb z y.op)=false:=by
   intro x y hx hy;rcases hx with h | h <;> rcases hy with h' | h' <;> rw [h,h'] <;> rfl
  constructor
  .intro hs;rcases Bm q k with h | h | h
   .exact h
   .grind
   .exfalso;have hlt:B9 ops k<B9 ops q:=by
     rcases FZ (ops:=ops) h hq with ⟨h3,_⟩ | ⟨_,h3⟩;all_goals grind
    rcases g.chk.pair _ _ _ _ hlt ho hx with hf | ⟨_,hkd,_⟩
    .have:=hf S I.closed fun e he hb=>I.closed _ _ hx hs e he hb
     grind
    grind
  .intro h;have hlt:B9 ops q<B9 ops k:=by
    rcases FZ (ops:=ops) h hk with ⟨h3,_⟩ | ⟨_,h3⟩;all_goals grind
   rcases g.chk.pair _ _ _ _ hlt hx ho with hf | ⟨_,hkd,_⟩
   .exact hf S I.closed eG
   grind
 refine ⟨?_,key⟩;rcases A7 k p with h | h
 .have:=(I.chain k o hk ho hch).2 h
  grind
 .exact h
end
end
section
variable {Sp:B4} {z:Nat} {P:Program} {D:List Deferred} {ops:Array Oper} {cx:CL} {st:St} {f:Nat->St}
theorem v1c {ρ ρ':B6} {floor:Nat} {m m':CD} {n n':Nat} {w w':World} (h:B7 ρ m n w) (h':B7 ρ' m' n' w') (e:Ev ρ ρ' floor m n m' n' w w') {b:Nat} {ab:CG} (hm:Yr m b=some ab) (hb: ∀l,ρ b=some l->Jd ρ w' ab l):
  B7 ρ' (Wb .leaf b (some ab)) n' w':=by
 have hbn:b<n:=by
  rcases A7 b n with g | g
  .exact g
  .rw [h.bd b g] at hm;cases hm
 have hn:=e.nxt;have hg: ∀c,(Yr (Wb .leaf b (some ab)) c).isSome =true->c=b:=fun c hc=>by
  by_cases hcb:c=b
  .exact hcb
  .rw [Zu _ _ hcb] at hc;cases hc
 refine ⟨h'.dom,fun c c' l l' _ _ _ hs hs'=>(hg c hs).trans (hg c' hs').symm,fun c l a hc ha=> ?_,h'.old,fun c l hc hs=> ?_,h'.real,fun c hc=> ?_,h'.ldom⟩
 .obtain rfl:=hg c (by rw [ha];rfl);rw [Ym] at ha;obtain rfl:=Ag ha;rw [e.new c hbn] at hc;have q:=hb l hc;exact q.world e.ext rfl
 .obtain rfl:=hg c hs;rw [e.new c hbn] at hc;rw [e.still _ (h.real c l hc)];exact h.sep c l hc (by rw [hm];rfl)
 .rw [Zu _ _ (by omega)];rfl
theorem u9u (g:Dd Sp z P ops cx st f) {ρ0:B6} {w0:World} (hout: ∀i,cx.n<=i->T.get .undef st.env i=.undef) (hbd: ∀b,st.next<=b->Yr st.mem b=none): ∀(fuel:Nat) (listed:Array Bool) (p:Nat) (ρ:B6) (a:Act) (w:World),listed.size=ops.size->
  (List.range ops.size).countP (fun i=> !listed.getD i false)=fuel->Inv z P D ops cx st f ρ0 w0 (fun i=>listed.getD i false) p ρ a w->wpAny P .any ops (JP D ρ0 cx st (f ops.size) w0) fuel listed a w:=by
 have someReady: ∀listed:Array Bool,listed.size=ops.size-> ∀i,i<ops.size->listed.getD i false=false-> ∃j,j∈Region.ready .any ops listed:=by
  intro listed hsz i
  induction i using Nat.strongRecOn with
  | _ i ih=>
   intro hi hl;by_cases h: ∃e∈(ops[i]).after.toList,Region.binds .any e=true/\listed.getD e.on false=false
   .obtain ⟨e,he,hb,hf⟩:=h;have hlt:=g.chk.ord i ops[i] (by simp [hi]) e he hb
    grind
   .refine ⟨i,mem_ready.2 ⟨?_,ops[i],by simp [hi],fun e he hb=> ?_⟩⟩;all_goals grind
 intro fuel
 induction fuel with
 | zero=>
  intro listed p ρ a w hsz hcnt I;have fF: ∀i,i<ops.size->listed.getD i false=true:=by simp_all
  refine ⟨?_,rfl,I.defers,ρ,?_,?_,?_⟩
  .simp_all [Region.ready]
  .refine ⟨I.tsz,fun t=> ?_,fun i hi=> ?_⟩
   .by_cases hw: ∃(i:Nat) (x:Oper),ops[i]? =some x/\x.dst=some t
    .obtain ⟨i,x,hx,hd⟩:=hw;have hil:i<ops.size:=(AN.1 hx).1;obtain ⟨k,hk,rfl⟩:=t5j hil;have hst:(f ops.size).tmp t=(f (k+1)).tmp t:=g.slot_stays (by omega) (Aq _) fun q y h1 h2 hy hyd=>by
      have e:B9 ops k=B9 ops q:=x5n g hx hy hd hyd;rcases FZ (ops:=ops) (k1:=k) (k2:=q) (by omega) h2 with ⟨h3,h4⟩ | ⟨_,h4⟩;all_goals grind
     show VRel ρ ((f ops.size).tmp t) _;rw [hst];exact I.done k x t hk hx (fF _ hil) hd
    .have hst:(f ops.size).tmp t=(f 0).tmp t:=g.slot_stays (AA _) (Aq _) fun q y _ h2 hy hyd=>hw ⟨_,y,hy,hyd⟩;show VRel ρ ((f ops.size).tmp t) _;rw [hst,g.f0];exact I.undone t fun i x hx _ hd=>hw ⟨i,x,hx,hd⟩
   .have hst:(f ops.size).tmp i=(f 0).tmp i:=g.slot_stays (AA _) (Aq _) fun q y _ h2 hy hyd=>by obtain ⟨o,ho,s⟩:=g.step' h2;rw [hy] at ho;obtain rfl:=Ag ho;exact absurd hi (Nat.not_le_of_lt (s.slot i hyd))
    show (f ops.size).tmp i=_;rw [hst,g.f0];exact hout i hi
  .obtain ⟨e1,e2⟩:=g.mem_stays I.ple (Aq _) fun k o h1 h2 ho=>by
    rcases OE z o with h | h | h | h
    .exact .inl h
    .exact .inr h
    .have:=I.past k o h2 ho h;omega
    .have:=(I.chain k o h2 ho h).1 (fF _ (j0g h2));omega
   rw [e1,e2];exact I.rel
  .obtain ⟨e1,e2⟩:=g.mem_stays I.ple (Aq _) fun k o h1 h2 ho=>by
    rcases OE z o with h | h | h | h
    .exact .inl h
    .exact .inr h
    .have:=I.past k o h2 ho h;omega
    .have:=(I.chain k o h2 ho h).1 (fF _ (j0g h2));omega
   rw [e1,e2];exact I.ev
 | succ fuel ih=>
  intro listed p ρ a w hsz hcnt I;refine ⟨fun hr=> ?_,fun i hi=> ?_⟩
  .exfalso;have: ∃i,i<ops.size/\listed.getD i false=false:=by
    have hpos:0<(List.range ops.size).countP (fun i=> !listed.getD i false):=(by omega);obtain ⟨i,hi,h⟩:=List.countP_pos_iff.1 hpos
    grind
   grind
  .obtain ⟨hun,o,ho,hafter⟩:=mem_ready.1 hi;have hil:i<ops.size:=(AN.1 ho).1;obtain ⟨k,hk,rfl⟩:=t5j hil;have hil2:B9 ops k<listed.size:=by omega
   have hns:listed.getD (B9 ops k) false=false:=by grind
   have eG:Hd (fun i=>listed.getD i false) o:=fun e he hb=>hafter e (Array.mem_toList_iff.1 he) hb;have hS: ∀j,(listed.setIfInBounds (B9 ops k) true).getD j false=(listed.getD j false||j == B9 ops k):=by
    intro j;by_cases hj:j=B9 ops k
    .simp_all
    .have:(j == B9 ops k)=false:=(by grind);simp [this,Array.getElem?_setIfInBounds_ne (Ne.symm hj)]
   have hcnt':(List.range ops.size).countP (fun i=> !(listed.setIfInBounds (B9 ops k) true).getD i false)=fuel:=by
    have:=z5a (fun i=> !listed.getD i false) (fun i=> !(listed.setIfInBounds (B9 ops k) true).getD i false) (B9 ops k) ops.size (fun j hj=>by
     grind) (by grind) (by rw [hS];simp) hil
    omega
   have fW:(listed.setIfInBounds (B9 ops k) true).size =ops.size:=by grind
   have fO:=I.closes ho eG hS;have undone: ∀{j:Nat},(listed.setIfInBounds (B9 ops k) true).getD j false=false->listed.getD j false=false:=fun {j} h=>by
    grind
   have calms: ∀(k1 q:Nat) (o1 x:Oper),k1<q->q<p->q<ops.size->ops[B9 ops k1]? =some o1->ops[B9 ops q]? =some x->(listed.setIfInBounds (B9 ops k) true).getD (B9 ops k1) false=false->EU z x->HI z ops (B9 ops k1) (B9 ops q)=true->j0c z o.op=true:=fun k1 q o1 x c1 c2 c3 c4 c5 c6 c7 c8=>by
    have hq:=(I.chain q x c3 c5 c7).2 c2;have h8:=At.1 c8 (B9 ops k) (A6.2 hil);rw [ho] at h8;simp only [Bs] at h8;rcases h8 with h8 | h8 | h8 | h8
    .exact h8
    .simp_all
    .have:=(g.chk.bits _ _ c5 _ h8).2 _ I.closed fun e he hb=>I.closed _ _ c5 hq e he hb
     grind
    .have:=(g.chk.bits _ _ ho _ h8).2 _ I.closed eG
     grind
   have notcalm: ∀{α:Prop},Xb z o.op≠ .pure ->Xb z o.op≠ .read ->j0c z o.op=true->α:=fun h1 h2 h=>by
    grind [j0c]
   obtain ⟨o',ho',s⟩:=g.step' hk;rw [ho] at ho';obtain rfl:=Ag ho';have hops:=I.operands g hk ho hns eG;have hguard: ∀d,Js ops o=some d->VRel ρ ((f k).tmp d) (a.tmps.getD d undef):=fun d hd=>I.looks g hk ho hns eG (x5e hd);have hob:=g.ob (k+1) (by omega);have finish: ∀{q:Prop},(if Region.wanted o (yielded ops a.tmps) then o.wp P a w (wpAny P .any ops (JP D ρ0 cx st (f ops.size) w0) fuel (listed.setIfInBounds (B9 ops k) true)) (JP D ρ0 cx st (f ops.size) w0) else wpAny P .any ops (JP D ρ0 cx st (f ops.size) w0) fuel (listed.setIfInBounds (B9 ops k) true) (a.put o.dst undef) w)->
     wpOp P ops (JP D ρ0 cx st (f ops.size) w0) (B9 ops k) (wpAny P .any ops (JP D ρ0 cx st (f ops.size) w0) fuel (listed.setIfInBounds (B9 ops k) true)) a w:=by
    grind [wpOp]
   have calm:(Xb z o.op=.pure \/Xb z o.op=.read)->wpOp P ops (JP D ρ0 cx st (f ops.size) w0) (B9 ops k) (wpAny P .any ops (JP D ρ0 cx st (f ops.size) w0) fuel (listed.setIfInBounds (B9 ops k) true)) a w:=by
    intro hkd;obtain ⟨memC,hrelC,hagC⟩: ∃memC,B7 ρ memC (f p).next w/\ ∀t y b ab,o.op=.load t y->Ep o.op (f k).eval =some b->Yr (f k).mem b=some ab->Yr memC b=some ab:=by
     by_cases hl: ∃t y b ab q x,o.op=.load t y/\Ep o.op (f k).eval =some b/\Yr (f k).mem b=some ab/\k<=q/\q<p/\ops[B9 ops q]? =some x/\EU z x/\HI z ops (B9 ops k) (B9 ops q)=true/\El x.op (f q).eval (f q).mem =some b
     .obtain ⟨t,y,b,ab,q0,x0,hop,hrd,hm,l1,l2,l3,l4,l5,l6⟩:=hl;have gB:Xb z o.op=.read :=by rw [hop];rfl
      obtain ⟨_,b2⟩:=I.between g hk ho hns eG gB hrd;have hbn:b<(f k).next :=by
       rcases A7 b (f k).next with h | h
       .exact h
       .rw [g.bd hbd (by omega) b h] at hm;cases hm
      have first: ∀n q x,q<=n->k<=q->q<p->ops[B9 ops q]? =some x->EU z x->HI z ops (B9 ops k) (B9 ops q)=true->El x.op (f q).eval (f q).mem =some b->
        ∃q x,k<=q/\q<p/\ops[B9 ops q]? =some x/\EU z x/\HI z ops (B9 ops k) (B9 ops q)=true/\El x.op (f q).eval (f q).mem =some b/\ ∀q' x',k<=q'->q'<q->ops[B9 ops q']? =some x'-> ¬(EU z x'/\HI z ops (B9 ops k) (B9 ops q')=true/\El x'.op (f q').eval (f q').mem =some b):=by
       intro n
       induction n with
       | zero=>grind
       | succ n ih=>
        intro q x h0 h1 h2 h3 h4 h5 h6;by_cases he: ∃q' x',k<=q'/\q'<q/\ops[B9 ops q']? =some x'/\EU z x'/\HI z ops (B9 ops k) (B9 ops q')=true/\El x'.op (f q').eval (f q').mem =some b
        .obtain ⟨q',x',e1,e2,e3,e4,e5,e6⟩:=he;exact ih q' x' (by omega) e1 (by omega) e3 e4 e5 e6
        .exact ⟨q,x,h1,h2,h3,h4,h5,h6,fun q' x' e1 e2 e3 e4=>he ⟨q',x',e1,e2,e3,e4⟩⟩
      obtain ⟨q,x,h1,h2,h3,h4,h5,h6,h7⟩:=first q0 q0 x0 (Aq _) l1 l2 l3 l4 l5 l6
      have hple:=I.ple;have hne:k≠q:=fun e=>by
       rw [<-e,ho] at h3;obtain rfl:=Ag h3;rcases h4 with h | h <;> rw [gB] at h <;> cases h
      have hst:=g.blk_stays (x:=b) (a:=k) (b:=q) h1 (by omega) hbn fun q' x' e1 e2 e3=>by
       rcases b2 q' x' e1 (by omega) e3 with d | d | d | d | d | d;all_goals grind
      refine ⟨_,I.late k q o x b ab (by omega) h2 (by omega) ho h3 hns h4 h5 h6 (by grind),fun t' y' b' ab' hop' hrd' hm'=> ?_⟩
      grind [Ym]
     .refine ⟨(f p).mem,I.rel,fun t y b ab hop hrd hm=> ?_⟩;have gB:Xb z o.op=.read :=by rw [hop];rfl
      obtain ⟨b1,b2⟩:=I.between g hk ho hns eG gB hrd;have b2: ∀q x,k<=q->q<p->ops[B9 ops q]? =some x->OH z x\/Xb z x.op=.read \/(Xb z x.op=.call /\ES ops (B9 ops q)=true/\Ek Sp x.op (f q).eval ≠some b)\/(Xb z x.op=.chain /\EO x.op (f q).eval ≠some b)\/FB z x:=fun q x e1 e2 e3=>by
       rcases b2 q x e1 e2 e3 with d | d | d | d | d | d;all_goals grind
      have hρ: ∃l,ρ b=some l:=by
       have:=hops y (by rw [hop];simp [Op.operands]);rw [hop] at hrd;simp only [Ep] at hrd;generalize a.eval y=uy at this;split at hrd
       .rename_i hy;rw [hy] at this;obtain rfl:=Ag hrd;cases this with
        | ptr _ _ l h=>grind
       .rename_i hy;rw [hy] at this;obtain rfl:=Ag hrd;cases this with
        | epa _ _ _ _ l h=>grind
       .cases hrd
      obtain ⟨l,hl⟩:=hρ;rcases Nat.le_total p k with hpk | hpk
      .have:=g.blk_stays (x:=b) hpk (by omega) (I.rel.dom b l hl) b1
       grind
      .have hbn:b<(f k).next :=by
        rcases A7 b (f k).next with h | h
        .exact h
        .rw [g.bd hbd (by omega) b h] at hm;cases hm
       have:=g.blk_stays (x:=b) hpk I.ple hbn b2
       grind
    refine finish (q:=True) (s.calm hob hkd ρ a w (f k).eval memC (f p).next I.tsz (fun _ _=>rfl) hguard hops hrelC hagC _ _ fun u eP=> ?_)
    .obtain ⟨d1,d2⟩:=I.slots g hk ho hns (B6.le_refl ρ) eP hS;refine ih _ p ρ _ w fW hcnt' ⟨fO,by rw [Act.put_defers'];exact I.defers,by cases h:o.dst <;> simp [Act.put,I.tsz],d1,d2,I.ple,I.past,fun q x hq hx hc=> ?_,I.rel,I.ev,fun k1 q o1 x b ab c1 c2 c3 c4 c5 c6=>I.late k1 q o1 x b ab c1 c2 c3 c4 c5 (undone c6),fun q x hq hx hnw hs=> ?_⟩
     .have hne:B9 ops q≠B9 ops k:=fun e=>by
       rw [e,ho] at hx;obtain rfl:=Ag hx;rcases hc with h | h <;> rcases hkd with h' | h' <;> rw [h] at h' <;> cases h'
      rw [hS]
      simpa [hne] using I.chain q x hq hx hc
     .rw [hS] at hs;simp only [BB] at hs;exact I.allocs q x hq hx hnw hs.1
   rcases OE z o with (hkd | hkd) | hkd | hkd | hkd
   .grind
   .-- a slice that is written out, as data
    refine finish (q:=True) (s.lit hob hkd ρ a w (f k).eval (f p).mem (f p).next I.tsz (fun _ _=>rfl) hguard hops I.rel _ _ fun ρ' u w' eP eV eL hev=> ?_);obtain ⟨d1,d2⟩:=I.slots g hk ho hns (hev cx.floor (f p).mem).ext eP hS;refine ih _ p ρ' _ w' fW hcnt' ⟨fO,by rw [Act.put_defers'];exact I.defers,by cases h:o.dst <;> simp [Act.put,I.tsz],d1,d2,I.ple,I.past,fun q x hq hx hc=> ?_,eV,I.ev.trans (hev _ _),fun k1 q o1 x b ab c1 c2 c3 c4 c5 c6 c7 c8=>notcalm (by grind) (by grind) (calms k1 q o1 x c1 c2 c3 c4 c5 c6 c7 c8),fun q x hq hx hnw hs=> ?_⟩
    .have hne:B9 ops q≠B9 ops k:=fun e=>by
      rw [e,ho] at hx;obtain rfl:=Ag hx;rcases hc with h | h <;> rw [h] at hkd <;> cases hkd
     rw [hS]
     simpa [hne] using I.chain q x hq hx hc
    .rw [hS] at hs;simp only [BB] at hs;obtain ⟨m1,m2,m3,m4⟩:=I.allocs q x hq hx hnw hs.1
     grind
   .grind
   .-- a block is made
    have hgn:=g.chk.guard _ o ho hkd;obtain ⟨cells,ty,hm1,hn1,hborn⟩:=s.fresh hob hkd hgn;obtain ⟨l1,l2,l3,l4⟩:=I.allocs k o hk ho hkd hns;rw [hm1,Ym] at l4;obtain ⟨u,vs,el,hvs,dW,eP⟩:=hborn ρ a w (f k).eval (fun _ _=>rfl) hops;have eV:=I.rel.birth l2 l3 l4 el hvs;refine finish (q:=True) ?_;rw [AG (by unfold Region.wanted;rw [hgn])];unfold Oper.wp;rw [dW];have hle:ρ.le (Ur ρ (f k).next ⟨w.heap.size,0,cells.length,vs.size⟩):=N7 l3;obtain ⟨d1,d2⟩:=I.slots g hk ho hns hle (u:=u) (fun d hd=>eP _ (by simp [Ur]) d hd) hS;have ev':Ev ρ0 (Ur ρ (f k).next ⟨w.heap.size,0,cells.length,vs.size⟩) cx.floor st.mem st.next (f p).mem (f p).next w0 {w with heap:=w.heap.push (.cells vs el)}:=by
     have e:=I.ev;refine ⟨B6.le_trans e.ext hle,fun b hb=> ?_,e.nxt,e.unborn,fun q ob hq hf=> ?_,fun b l hb hl=> ?_,?_,e.os,e.tape,e.output,e.still⟩
     .rw [<-e.new b hb];rw [Ju,Aw (by omega)]
     .have:=e.frame q ob hq hf
      grind
     .rw [Ju] at hl;by_cases hbk:b=(f k).next
      .rw [AG hbk] at hl;obtain rfl:=Ag hl;exact .inl e.size
      .rw [Aw hbk] at hl;exact e.fresh b l hb hl
     .have:=e.size;simp;omega
    refine ih _ p _ _ _ fW hcnt' ⟨fO,by rw [Act.put_defers'];exact I.defers,by cases h:o.dst <;> simp [Act.put,I.tsz],d1,d2,I.ple,I.past,fun q x hq hx hc=> ?_,eV,ev',fun k1 q o1 x b ab c1 c2 c3 c4 c5 c6 c7 c8=>notcalm (by rcases hkd with h | h <;> rw [h] <;> exact fun h=>by cases h) (by rcases hkd with h | h <;> rw [h] <;> exact fun h=>by cases h) (calms k1 q o1 x c1 c2 c3 c4 c5 c6 c7 c8),fun q x hq hx hnw hs=> ?_⟩
    .have hne:B9 ops q≠B9 ops k:=fun e=>by
      rw [e,ho] at hx;obtain rfl:=Ag hx;rcases hc with h | h <;> rcases hkd with h' | h' <;> rw [h] at h' <;> cases h'
     rw [hS]
     simpa [hne] using I.chain q x hq hx hc
    .rw [hS] at hs;simp only [BB] at hs;obtain ⟨m1,m2,m3,m4⟩:=I.allocs q x hq hx hnw hs.1;refine ⟨m1,m2,?_,m4⟩;have hne:(f q).next ≠(f k).next :=by
      have hqk:q≠k:=fun e=>by grind
      have up: ∀q x,q<ops.size->ops[B9 ops q]? =some x->FB z x->(f (q+1)).next =(f q).next +1:=by intro q x hq hx hn;obtain ⟨x',hx',s'⟩:=g.step' hq;rw [hx] at hx';obtain rfl:=Ag hx';obtain ⟨_,_,_,h6,_⟩:=s'.fresh (g.ob _ (by omega)) hn (g.chk.guard _ x hx hn);exact h6
      rcases Bm q k with h | h | h
      .have h1:=up q x hq hx hnw;have h2:=g.next_le (a:=q+1) (b:=k) (by omega) (by omega);omega
      .grind
      .have h1:=up k o hk ho hkd;have h2:=g.next_le (a:=k+1) (b:=q) (by omega) (by omega);omega
     grind [Ju]
   .-- the next one that may write
    obtain ⟨hpk,hch⟩:=I.next_chain g hk ho hns eG hkd;obtain ⟨e1,e2⟩:=g.mem_stays hpk (by omega) fun q x h1 h2 hx=>by
     rcases OE z x with h | h | h | h
     .exact .inl h
     .exact .inr h
     .have:=I.past q x (by omega) hx h;omega
     .have:=(I.chain q x (by omega) hx h).1 ((hch q x (by omega) hx h).2 h2);omega
    have dU:B7 ρ (f k).mem (f k).next w:=by rw [e1,e2];exact I.rel
    refine finish (q:=True) (s.does hob hkd ρ a w (f k).eval I.tsz (fun _ _=>rfl) hguard hops dU _ _ fun ρ' u w' eP eV hev hlate=> ?_);obtain ⟨d1,d2⟩:=I.slots g hk ho hns hev.ext eP hS;have hev0:=hev;rw [e1,e2] at hev;refine ih _ (k+1) ρ' _ w' fW hcnt' ⟨fO,by rw [Act.put_defers'];exact I.defers,by cases h:o.dst <;> simp [Act.put,I.tsz],d1,d2,by omega,fun q x hq hx hc=>by have:=I.past q x hq hx hc;omega,fun q x hq hx hc=> ?_,eV,I.ev.trans hev,fun k1 q o1 x b ab c1 c2 c3 c4 c5 c6 c7 c8 c9 c10=> ?late,fun q x hq hx hnw hs=> ?_⟩
    case late=>
     by_cases hqk:q=k
     .subst hqk;rw [ho] at c5;obtain rfl:=Ag c5;exact v1c dU eV hev0 c10 fun l hl=>hlate b ab l c9 c10 hl
     .have hqs:=(hch q x c3 c5 c7).2 (by omega);have hqp:=(I.chain q x c3 c5 c7).1 hqs;exact notcalm (by rcases hkd with h | h <;> rw [h] <;> exact fun h=>by cases h) (by rcases hkd with h | h <;> rw [h] <;> exact fun h=>by cases h) (calms k1 q o1 x c1 hqp c3 c4 c5 c6 c7 c8)
    .rw [hS];by_cases hqk:q=k
     .grind
     .have hne:B9 ops q≠B9 ops k:=fun e=>by
       rcases A7 q k with h | h
       .grind
       .rcases FZ (ops:=ops) (k1:=k) (k2:=q) (by omega) hq with ⟨h3,h4⟩ | ⟨_,h4⟩;all_goals grind
      have:=hch q x hq hx hc;simp only [beq_eq_false_iff_ne.2 hne,Bool.or_false];rw [this];omega
    .rw [hS] at hs;simp only [BB] at hs;obtain ⟨m1,m2,m3,m4⟩:=I.allocs q x hq hx hnw hs.1;obtain ⟨x',hx',s'⟩:=g.step' hq;rw [hx] at hx';obtain rfl:=Ag hx';obtain ⟨cells,ty,hm1,_,_⟩:=s'.fresh (g.ob _ (by omega)) hnw (g.chk.guard _ x hx hnw);have e0:Yr (f (q+1)).mem (f q).next =some ⟨cells,ty,none⟩:=by rw [hm1,Ym]
     rw [e0] at m4;refine ⟨m1,A0 m2 hev.nxt,by rw [hev.new _ m2];exact m3,by rw [e0];exact hev.unborn _ m2 m3 _ _ m4⟩
theorem u0u (g:Dd Sp z P ops cx st f) {ρ:B6} {a:Act} {w:World} (hd:a.defers=D) (dY:Vz ρ st.env cx.n a.tmps) (dU:B7 ρ st.mem st.next w):
  ∃p,Inv z P D ops cx st f ρ w (fun i=>(Array.replicate ops.size false).getD i false) p ρ a w:=by
 have hf: ∀i,(Array.replicate ops.size false).getD i false=false:=fun i=>by
  by_cases h:i<ops.size;all_goals simp_all
 have hA: ∃p,p<=ops.size/\(∀k o,k<ops.size->ops[B9 ops k]? =some o->FB z o->k<p)/\(p=0\/ ∃o,ops[B9 ops (p - 1)]? =some o/\FB z o):=by
  have: ∀n,n<=ops.size-> ∃p,p<=n/\(∀k o,k<n->ops[B9 ops k]? =some o->FB z o->k<p)/\(p=0\/ ∃o,ops[B9 ops (p - 1)]? =some o/\FB z o):=by
   intro n
   induction n with
   | zero=>grind
   | succ n ih=>
    intro hn;obtain ⟨p,hp,hk,hlast⟩:=ih (by omega);have hlt:=j0g (ops:=ops) (k:=n) (by omega);have hx:ops[B9 ops n]? =some ops[B9 ops n]:=(by simp [hlt]);by_cases e:FB z ops[B9 ops n]
    .exact ⟨n+1,Aq _,fun k o h _ _=>h,.inr ⟨_,hx,e⟩⟩
    .refine ⟨p,by omega,fun k o h ho hnw=> ?_,hlast⟩;by_cases hkn:k=n
     .grind
     .exact hk k o (by omega) ho hnw
  simp_all
 obtain ⟨p,hp,hpk,hlast⟩:=hA;have noch: ∀k o,k<p->ops[B9 ops k]? =some o-> ¬EU z o:=by
  intro k o hk ho hc;rcases hlast with h0 | ⟨x,hx,hnw⟩
  .omega
  .by_cases hkp:k=p - 1
   .rw [<-hkp,ho] at hx;obtain rfl:=Ag hx;rcases hc with h | h <;> rcases hnw with h' | h' <;> rw [h] at h' <;> cases h'
   .have nal:isAlloc ops (B9 ops k)=false:=by
     cases e:isAlloc ops (B9 ops k) with
     | false=>rfl
     | true=>
      have:=(Jn (z:=z) ho).1 e;rcases hc with h | h <;> rw [h] at this <;> cases this
    rcases FZ (ops:=ops) (k1:=k) (k2:=p - 1) (by omega) (by omega) with ⟨h3,_⟩ | ⟨h3,h4⟩
    .grind
    .rw [nal] at h3;rcases hnw with hnw | hnw
     .grind [Jn]
     .exact g.chk.birth _ _ _ _ h4 ho hx hnw hc
 have stepAt: ∀k,k<p->((f (k+1)).mem =(f k).mem /\(f (k+1)).next =(f k).next)\/ ∃cells ty,(f (k+1)).mem =Wb (f k).mem (f k).next (some ⟨cells,ty,none⟩)/\(f (k+1)).next =(f k).next +1:=by
  intro k hk;obtain ⟨o,ho,s⟩:=g.step' (k:=k) (by omega);rcases OE z o with h | h | h | h
  .exact .inl (s.stay (by rcases h with h | h <;> simp [h]))
  .exact .inl (s.stay (.inr (.inl h)))
  .obtain ⟨cells,ty,h1,h2,_⟩:=s.fresh (g.ob _ (by omega)) h (g.chk.guard _ o ho h)
   grind
  grind
 have start: ∀k,k<=p->B7 ρ (f k).mem (f k).next w/\Ev ρ ρ cx.floor st.mem st.next (f k).mem (f k).next w w:=by
  intro k
  induction k with
  | zero=>intro _;rw [g.f0];exact ⟨dU,Ev.refl _ _ _ _ _ dU.dom⟩
  | succ k ih=>
   intro hk;obtain ⟨hr,he⟩:=ih (by omega);rcases stepAt k (by omega) with ⟨h3,h4⟩ | ⟨cells,ty,h3,h4⟩
   .grind
   .rw [h3,h4];refine ⟨hr.unborn _,he.trans ⟨B6.le_refl _,fun _ _=>rfl,B0 _,fun b hb _ cs ty hm=>by grind [Zu],fun _ _ h _=>h,fun b l hb hl=>by have:=hr.dom b l hl;omega,Aq _,rfl,rfl,rfl,fun _ _=>rfl⟩⟩
 have later: ∀k k',(f (k+1)).next =(f k).next +1->k<k'->k'<=p->(f k).next <(f k').next /\Yr (f k').mem (f k).next =Yr (f (k+1)).mem (f k).next :=by
  intro k k' hk1 hk
  induction k' with
  | zero=>omega
  | succ k' ih=>
   intro hk';by_cases e:k=k'
   .grind
   .obtain ⟨h1,h2⟩:=ih (by omega) (by omega);rcases stepAt k' (by omega) with ⟨h3,h4⟩ | ⟨cells,ty,h3,h4⟩;all_goals grind [Zu]
 obtain ⟨hrp,hep⟩:=start p (Aq _);refine ⟨p,?_,hd,dY.size,?_,?_,hp,hpk,?_,hrp,hep,fun k q o x b ab _ hqp _ _ hx _ hc=>absurd hc (noch q x hqp hx),?_⟩
 .intro j o _ hs;grind
 .grind
 .intro t _;exact dY.get t
 .grind
 .intro k o hk ho hnw _;have hkp:k<p:=hpk k o hk ho hnw;obtain ⟨o',ho',s⟩:=g.step' (k:=k) hk;rw [ho] at ho';obtain rfl:=Ag ho';obtain ⟨cells,ty,h3,h4,_⟩:=s.fresh (g.ob _ (by omega)) hnw (g.chk.guard _ o ho hnw);obtain ⟨h5,h6⟩:=later k p h4 hkp (Aq _);have hge:st.next<=(f k).next :=by have:=g.next_le (a:=0) (b:=k) (AA _) (by omega);rw [g.f0] at this;exact this
  refine ⟨hge,h5,?_,h6⟩;cases e:ρ (f k).next with
  | none=>rfl
  | some l=>have:=dU.dom _ l e;omega
theorem y0i {S:B4} {R:CC} (hN:Ex P) (hS:Zv P S) (hRI:FG R) (hR:Gz P R) {st':St} (hcx:cx.floor<=st.next) (eW:Nd z ops=true)
  (h:Sd z P S R ops cx (J1 ops) [] st=some st') (ho:st'.ob=true) {ρ:B6} {a:Act} {w:World} (hd:a.defers=D) (dY:Vz ρ st.env cx.n a.tmps) (dU:B7 ρ st.mem st.next w):
  wpAny P .any ops (JP D ρ cx st st' w) ops.size (Array.replicate ops.size false) a w:=by
 obtain ⟨f,f0,fn,fs,_,fp⟩:=z4s (J1 ops) [] st st' h;have dV:(J1 ops).length =ops.size:=by simp [J1,Xi]
 rw [dV] at fn;have fA: ∀(k:Nat) (hk:k<(Yb ops).length),cx.floor<=(f k).next ->j0o S z P ops cx (ES ops (Yb ops)[k],ops.getD (Yb ops)[k] default) (f k) (f (k+1)):=by
  grind [J1,v0l]
 have hnx: ∀k,k<=ops.size->cx.floor<=(f k).next :=by
  intro k
  induction k with
  | zero=>grind
  | succ k ih=>intro hk;have hc:=ih (by omega);exact AF hc (fA k (by rw [Xi];omega) hc).inv.nxt
 have hob: ∀k,k<=ops.size->(f (ops.size - k)).ob =true:=by
  intro k
  induction k with
  | zero=>grind
  | succ k ih=>
   intro hk;have hk':ops.size - (k+1)<(Yb ops).length :=by rw [Xi];omega
   have s:=fA _ hk' (hnx _ (by omega));refine s.inv.ob ?_
   grind
 have g:Dd S z P ops cx st f:=⟨z8w eW,f0,hcx,fun k hk=>by
  have:=hob (ops.size - k) (by omega);rwa [show ops.size - (ops.size - k)=k by omega] at this,fun k hk=>fA k hk (hnx k (by rw [Xi] at hk;omega)),fun q k hq hk=>by
   have:=fp q k hq (by grind [Xi]);simp_all [J1]⟩
 obtain ⟨p,I⟩:=u0u g hd dY dU;have:=u9u g dY.out dU.bd ops.size (Array.replicate ops.size false) p ρ a w (by simp) (by
  rw [List.countP_eq_length.2];all_goals simp_all) I
 grind
theorem x2i {S:B4} {R:CC} (hRI:FG R): ∀(l:List (Bool×Oper)) (st st':St),w8b P S R ops cx l st=some st'->Wx cx.floor st st'
 | [],st,st',h=>by
  have h:some st=some st':=h
  grind [Wx.refl]
 | x::l,st,st',h=>by
  rw [y8g,Option.bind_eq_some_iff] at h;obtain ⟨st1,h1,h2⟩:=h;refine Wx.trans ?_ (x2i hRI l st1 st' h2);unfold Hk at h1;split at h1
  .cases h1
  .rename_i st2 hw;obtain ⟨w1,w2,w3⟩:=Wh hw;refine (Wx.same w1 w2 fun h=>(w3 h).1).trans ?_;unfold Nj at h1;split at h1
   .split at h1
    .rename_i st3 ho;obtain ⟨_,e2,e3,e4⟩:=Wv ho;obtain ⟨p1,p2,p3,_⟩:=Vg h1;exact (Wx.same e2 e3 fun h=>(e4 h).2).trans (Wx.same p1 p2 fun h=>by rw [<-p3];exact h)
    .cases h1
   .split at h1
    .rename_i v st3 he;obtain ⟨p1,p2,p3,_⟩:=Vg h1;exact (y9z hRI he).1.trans (Wx.same p1 p2 fun h=>by rw [<-p3];exact h)
    .cases h1
  .rename_i st2 hw;obtain ⟨w1,w2,w3⟩:=Wh hw;obtain ⟨p1,p2,p3,_⟩:=Vg h1;exact (Wx.same w1 w2 fun h=>(w3 h).1).trans (Wx.same p1 p2 fun h=>by rw [<-p3];exact h)
theorem v6c {S:B4} {R:CC} (hRI:FG R) {x:Bool×Oper} {st st':St} (h:OK z P S R ops cx x st=some st'):Wx cx.floor st st':=by
 unfold OK at h;cases hz:Ny z x.2.op with
 | false=>
  rw [hz,Aa] at h;cases hz2:isBirth z x.2.op with
  | true=>
   rw [hz2,Ab] at h;split at h
   .cases h
   .rename_i st2 hw;obtain ⟨w1,w2,w3⟩:=Wh hw;unfold y9r at h;split at h
    .split at h
     .obtain ⟨p1,p2,p3,_⟩:=Vg h;exact ((Wx.same w1 w2 fun h=>(w3 h).1).trans (Wx.new _ _ _)).trans (Wx.same p1 p2 fun h=>by grind)
     .cases h
    .cases h
   .rename_i st2 hw;obtain ⟨w1,w2,w3⟩:=Wh hw
    grind [Vg,Wx.same]
  | false=>rw [hz2,Aa] at h;exact x2i hRI [x] st st' (by rw [y8g,h];rfl)
 | true=>
  rw [hz,Ab] at h;split at h
  .cases h
  .rename_i st2 hw;obtain ⟨w1,w2,w3⟩:=Wh hw
   grind [w3k,Vg,Wx.same]
  .rename_i st2 hw;obtain ⟨w1,w2,w3⟩:=Wh hw
   grind [Vg,Wx.same]
theorem y8h {S:B4} {R:CC} (hRI:FG R) (l:List (Nat×Bool×Oper)) (acc:List Ds) (st st':St) (h:Sd z P S R ops cx l acc st=some st'):Wx cx.floor st st':=by
 obtain ⟨f,f0,fn,fs,_,_⟩:=z4s l acc st st' h;have: ∀k,k<=l.length->Wx cx.floor st (f k):=by
  intro k
  induction k with
  | zero=>intro _;rw [f0];exact Wx.refl _ _
  | succ k ih=>
   intro hk;refine (ih (by omega)).trans ?_
   grind [v6c]
 grind
end
section
variable {P:Program}
theorem x7g {H:GA} {w:World} (hH: ∀k o,H k=some o->w.heap[k]? =some o):B7 (rhoOf H) .leaf 0 w:=
 ⟨(fun b l h=>by cases h),(fun b b' l l' h=>by cases h),(fun b l ab h=>by cases h),hH,(fun b l h=>by cases h),(fun b l h=>by cases h),(fun b _=>rfl),(fun j l h=>by cases h)⟩
structure Out (H:GA) (w:World) (ρ:B6) (v:B2) (u:Value) (w':World):Prop where
 val:VRel ρ v u
 le: ∀k o,H k=some o->ρ.fz k=some o
 old: ∀k o,ρ.fz k=some o->w'.heap[k]? =some o
 same: ∀k,k<w.heap.size->ρ.fz k=H k
 below:RowKit.Below w.heap.size w w'
theorem PX {H:GA} {w w':World} {ρ:B6} {v:B2} {u:Value} {mem:CD} {next floor:Nat} (hv:VRel ρ v u) (hr:B7 ρ mem next w') (hev:Ev (rhoOf H) ρ floor .leaf 0 mem next w w'):Out H w ρ v u w':=
 ⟨hv,hev.ext.2.1,hr.old,hev.still,hev.os,hev.tape,hev.output,hev.size,fun k hk=>by
  have:w.heap[k]? =some w.heap[k]:=by simp [hk]
  rw [this];exact hev.frame k _ this fun b l hl=>by cases hl⟩
def FR :B4:=fun _=>none
theorem Zc :Zv P FR:=fun f F h=>by cases h
end
abbrev CX :=Array Oper×Nat×List Oper
structure CV where
 cx:CL
 ro:Option CX
 todo:List Item
 rnd:Option Nat
 rs:List ResultVar
 env:T B2
structure DX where
 st:LoopState
 pend:Option Code
 n:Nat
 env:T B2
 params:List Tmp
 assign:Code
 body:Code
abbrev CM :=T (Option DX)
def D9 (m:CM) (b:Nat):Option DX:=T.get none m b
def GO (m:CM) (b:Nat) (o:Option DX):CM:=T.set none m b o
structure CB where
 cx:CL
 ro:Option CX
 todo:List Item
 rnd:Option Nat
 rs:List ResultVar
 st:St
 cs:List CV
 lps:CM
def Ib (v:B2) (st:St) (lps:CM):List CV->Option CB
 | ⟨cx,some (ops,i,o::l),todo,rnd,rs,env⟩::cs=>match (st.withEnv env).put cx o.dst v with
  | some st'=>some ⟨cx,some (ops,i+1,l),todo,rnd,rs,st',cs,lps⟩
  | none=>none
 | ⟨cx,none,.inRangeFunc j::k,rnd,rs,env⟩::cs=>some ⟨cx,none,.endRangeFunc j::k,rnd,rs,st.withEnv env,cs,lps⟩
 | _=>none
def UT :Option Code->LoopState
 | none=>.ready
 | some _=>.done
def VS (lps:CM):Option Nat->Bool
 | none=>true
 | some j=>(D9 lps j).isSome
def UU (P:Program) (rnd:Option Nat) (rs:List ResultVar) (st:St) (cs:List CV) (lps:CM) (jump:Option Code):Option CB:=
 match rnd with
 | none=>match Qb P st rs with
  | some vs=>Ib (Ut vs) st lps cs
  | none=>none
 | some j=>match D9 lps j with
  | some ⟨_,_,n,env,params,assign,body⟩=>
   Ib (.bool jump.isNone) st (GO lps j (some ⟨UT jump,jump,n,env,params,assign,body⟩)) cs
  | none=>none
def x4b (n:Nat):List Tmp->List B2->T B2->Option (T B2)
 | [],[],env=>some env
 | t::ts,a::l,env=>bif Nat.ble (t+1) n then x4b n ts l (T.set .undef env t a) else none
 | _,_,_=>none
def So (P:Program) (f:FuncId) (args:List B2) (fr:CV) (st:St) (cs:List CV) (lps:CM):Option CB:=
 match P.funcs[f]? with
 | some fn=>match fn.body with
  | some body=>some ⟨⟨Nat.max fn.ntmps args.length,fr.cx.floor,fr.cx.sym⟩,none,[.code body],none,fn.results.toList,st.withEnv (Fb args 0 .leaf),fr::cs,lps⟩
  | none=>none
 | none=>none
def j3m (j:Nat) (args:List B2) (fr:CV) (st:St) (cs:List CV) (lps:CM):Option CB:=
 match D9 lps j with
 | some ⟨_,_,n,env,params,assign,body⟩=>match x4b n params args env with
  | some env'=>some ⟨⟨n,fr.cx.floor,fr.cx.sym⟩,none,[.code assign,.beginRound,.code body],some j,[],st.withEnv env',fr::cs,lps⟩
  | none=>none
 | none=>none
def callee (S:B4) (st:St) (op:Op):Option ((FuncId×List B2) ⊕ (Nat×List B2)):=
 match op with
 | .call {callee:=.value f,args,argTypes:=_}=>match st.eval f with
  | .fn g caps=>match S g with
   | some _=>none
   | none=>some (.inl (g,args.toList.map st.eval++caps))
  | .fnb g first=>match S g with
   | some _=>none
   | none=>some (.inl (g,first++args.toList.map st.eval))
  | .yld j=>some (.inr (j,args.toList.map st.eval))
  | _=>none
 | _=>none
def v6d (P:Program) (S:B4) (Rc:CC) (cx:CL) (ops:Array Oper) (i:Nat) (o:Oper) (l:List Oper) (todo:List Item) (rnd:Option Nat) (rs:List ResultVar) (st:St) (cs:List CV) (lps:CM):Option CB:=
 match HF ops o cx st with
 | some (true,st)=>match callee S st o.op with
  | some (.inl (g,args))=>So P g args ⟨cx,some (ops,i,o::l),todo,rnd,rs,st.env⟩ st cs lps
  | some (.inr (j,args))=>j3m j args ⟨cx,some (ops,i,o::l),todo,rnd,rs,st.env⟩ st cs lps
  | none=>match Nj P S Rc false o cx st with
   | some st=>some ⟨cx,some (ops,i+1,l),todo,rnd,rs,st,cs,lps⟩
   | none=>none
 | some (false,st)=>match st.put cx o.dst (.tup []) with
  | some st=>some ⟨cx,some (ops,i+1,l),todo,rnd,rs,st,cs,lps⟩
  | none=>none
 | none=>none
def HZ (ops:Array Oper):Bool:=ops.toList.all fun o=>match o.op with
 | .defer _=>false
 | _=>true
def Eq (o:Oper):Oper:=⟨none,.move (.const (.bool true)),o.type,o.pos,o.after,none⟩
def Wo (ops:Array Oper) (m:Nat):Array Oper:=⟨ops.toList.take m++(ops.toList.drop m).map Eq⟩
def j0t (ops:Array Oper) (m:Nat):Bool:=
 HZ ops&&(Nd 0 (Wo ops m)&&(((List.range ops.size).all fun j=>Nat.ble (j+1) m||(List.range j).all fun i=>((Fd (Wo ops m).toList []).getD j 0).testBit i)&&((List.range m).all fun i=>match ops[i]? with
  | some ⟨_,_,_,_,_,some (j,_)⟩=>Nat.ble (j+1) m
  | _=>true)))
def j7s (f:Operand):List Oper->Operand
 | []=>f
 | ⟨some d,.move x,_,_,_,_⟩::l=>match f with
  | .tmp t=>bif Nat.beq t d then x else j7s f l
  | _=>f
 | _::l=>j7s f l
def u0s (st:St) (ops:List Oper):Oper->Bool
 | ⟨_,.call ⟨.value f,_,_⟩,_,_,_,_⟩=>match st.eval (j7s f ops) with
  | .yld _=>true
  | _=>false
 | _=>false
def x3n (st:St) (ops:List Oper):List Oper->Nat->Option Nat
 | [],_=>none
 | o::l,i=>bif u0s st ops o then some i else x3n st ops l (i+1)
def j7g (ops:Array Oper) (st:St):Option Nat:=
 match x3n st ops.toList ops.toList 0 with
 | some m=>bif j0t ops m then some m else none
 | none=>none
def Ht (ops:Array Oper):List Nat->Option Nat
 | []=>none
 | z::l=>bif Nd z ops then some z else Ht ops l
def Pr (ops:Array Oper):Bool:=ops.toList.any fun o=>match o.op with
 | .call {callee:=.builtin .append,.. }=>true
 | _=>false
def t1w (ops:Array Oper):Bool:=ops.toList.any fun o=>match o.op,o.dst with
 | .buildSlice _ _ _,some d=>ops.toList.any fun p=>match p.op with
  | .call {callee:=.value _,args,argTypes:=_}=>args.toList.any fun a=>match a with
   | .tmp t=>Nat.beq t d
   | _=>false
  | _=>false
 | _,_=>false
def t1v (ops:Array Oper):Option Nat:=bif HZ ops then Ht ops (bif t1w ops then [1,0,2] else bif Pr ops then [0,2,3,1] else [0,1,2]) else none
def St.nextId :St->Nat×St
 | ⟨env,mem,next,orc,ob⟩=>(next,⟨env,mem,next+1,orc,ob⟩)
def TS (P:Program) (S:B4) (Rc:CC):CB->Option CB
 | ⟨cx,some (_,_,[]),todo,rnd,rs,st,cs,lps⟩=>some ⟨cx,none,todo,rnd,rs,st,cs,lps⟩
 | ⟨cx,some (ops,i,o::l),todo,rnd,rs,st,cs,lps⟩=>v6d P S Rc cx ops i o l todo rnd rs st cs lps
 | ⟨cx,none,todo,rnd,rs,st,cs,lps⟩=>match todo with
  | []=>UU P rnd rs st cs lps none
  | .code .ret ::_=>UU P rnd rs st cs lps (some .ret)
  | .code .skip ::k=>some ⟨cx,none,k,rnd,rs,st,cs,lps⟩
  | .code (.label _)::k=>some ⟨cx,none,k,rnd,rs,st,cs,lps⟩
  | .inBlock _::k=>some ⟨cx,none,k,rnd,rs,st,cs,lps⟩
  | .inScope _::k=>some ⟨cx,none,k,rnd,rs,st,cs,lps⟩
  | .code (.seq a b)::k=>some ⟨cx,none,.code a::.code b::k,rnd,rs,st,cs,lps⟩
  | .code (.cond c a b)::k=>match st.eval c with
   | .bool v=>match st.test v with
    | (e,st)=>some ⟨cx,none,.code (bif e then a else b)::k,rnd,rs,st,cs,lps⟩
   | _=>none
  | .code (.block id body)::k=>some ⟨cx,none,.code body::.inBlock id::k,rnd,rs,st,cs,lps⟩
  | .code (.scope body)::k=>some ⟨cx,none,.code body::.inScope body::k,rnd,rs,st,cs,lps⟩
  | .code (.loop body)::k=>some ⟨cx,none,.code body::.inLoop body::k,rnd,rs,st,cs,lps⟩
  | .inLoop body::k=>some ⟨cx,none,.code body::.inLoop body::k,rnd,rs,st,cs,lps⟩
  | .code (.exit id)::k=>match exitTo id k with
   | some k=>some ⟨cx,none,k,rnd,rs,st,cs,lps⟩
   | none=>match rnd with
    | some _=>UU P rnd rs st cs lps (some (.exit id))
    | none=>none
  | .code (.region _ ops false)::k=>bif HZ ops then some ⟨cx,some (ops,0,ops.toList),k,rnd,rs,st,cs,lps⟩ else none
  | .code (.region _ ops true)::k=>match j7g ops st with
   | some m=>match Sd 0 P S Rc (Wo ops m) cx (J1 (Wo ops m)) [] st with
    | some st=>some ⟨cx,some (ops,m,ops.toList.drop m),k,rnd,rs,st,cs,lps⟩
    | none=>none
   | none=>match t1v ops with
    | some z=>match Sd z P S Rc ops cx (J1 ops) [] st with
     | some st=>some ⟨cx,none,k,rnd,rs,st,cs,lps⟩
     | none=>none
    | none=>none
  | .code (.rangeFunc f params assign body)::k=>match st.eval f with
   | .fn g caps=>match st.nextId with
    | (j,st')=>bif VS lps rnd then So P g (.yld j::caps) ⟨cx,none,.inRangeFunc j::k,rnd,rs,st.env⟩ st' cs (GO lps j (some ⟨.ready,none,cx.n,st.env,params.toList,assign,body⟩)) else none
   | _=>none
  | .beginRound ::k=>match rnd with
   | some j=>match D9 lps j with
    | some ⟨.ready,pend,n,env,params,assign,body⟩=>some ⟨cx,none,k,rnd,rs,st,cs,GO lps j (some ⟨.busy,pend,n,env,params,assign,body⟩)⟩
    | _=>none
   | none=>none
  | .endRangeFunc j::k=>match D9 lps j with
   | some ⟨.busy,_,_,_,_,_,_⟩=>none
   | some ⟨_,pend,n,env,params,assign,body⟩=>some ⟨cx,none,(pend.map Item.code).toList ++k,rnd,rs,st,cs,GO lps j (some ⟨.exhausted,pend,n,env,params,assign,body⟩)⟩
   | none=>none
  | _=>none
def HD :CB->Bool
 | ⟨_,none,[],none,_,_,[],_⟩=>true
 | ⟨_,none,.code .ret ::_,none,_,_,[],_⟩=>true
 | _=>false
def Fo (P:Program) (S:B4) (Rc:CC) (n:Nat):CB->Option CB:=
 Nat.rec (motive:=fun _=>CB->Option CB) (fun _=>none) (fun _ R C=>bif HD C then some C else match TS P S Rc C with
  | some C'=>R C'
  | none=>none) n
def N6 :Item->Bool
 | .code _ | .inBlock _ | .inLoop _ | .inScope _ | .beginRound =>true
 | _=>false
def Pi (P:Program) (S:B4) (n:Nat) (d:Nat):CC:=
 Nat.rec (motive:=fun _=>CC) (fun _ _ _=>none) (fun _ R cx todo st=>bif todo.all N6&&Nat.ble cx.floor st.next then match Fo P S R n ⟨cx,none,todo,none,[],st,[],.leaf⟩ with
  | some C=>bif Nat.beq C.cx.n cx.n then some C.st else none
  | none=>none
  else none) d
section
variable {P:Program}
section ops
variable {b:Frame} {a:Act} {k:List Item} {cs:List Frame} {w:World} {ops:Array Oper}
theorem x4z {i:Nat} {rest:List Nat} {o:Oper} {K:Act->World->Prop} {Q:Exit->Act->World->Prop} (hQ: ∀e a w,Q e a w->e=.normal) (ho:ops[i]? =some o) (hnd: ∀c,o.op≠ .defer c)
  (h:if Region.wanted o (yielded ops a.tmps) then o.wp P a w K Q else K (a.put o.dst undef) w):
  ∃a' w',K a' w'/\Steps P (lone (b.atR a (.inRegion ops (i::rest)::k)) cs w) (lone (b.atR a' (.inRegion ops rest::k)) cs w'):=by
 by_cases hw:Region.wanted o (yielded ops a.tmps)=true
 .rw [AG hw] at h;have hg:=stepGR_op (P:=P) (b:=b) (k:=k) (cs:=cs) (w:=w) (rest:=rest) ho hw;rw [Oper.semAt_eq _ _ _ hnd] at hg;have fin: ∀(a:Act) (v:Value),(b.atR a (.inRegion ops (i::rest)::k)).finish v=b.atR (a.put o.dst v) (.inRegion ops rest::k):=fun a v=>by rw [Frame.finish_atR,ho];rfl
  unfold Oper.wp at h;generalize hr:(execOp a.eval o).run P w=r at h;cases r with
  | ok n w'=>
   cases n <;> simp only [Oper.upon] at h
   case value v=>exact ⟨_,w',h,.one (step_lone_go (by simp_all [stepG.apply]))⟩
   case skip=>exact ⟨_,w',h,.one (step_lone_go (by simp_all [stepG.apply]))⟩
   case defer d=>refine ⟨_,w',h,.one (step_lone_go ?_)⟩;have e:=fin {a with defers:=d::a.defers} undef;simp_all [stepG.apply,Frame.atR]
   case enter f args=>
    obtain ⟨e,w'',fr,hR,eT,_,hleave⟩:=h (b.atR a (.inRegion ops (i::rest)::k)::cs);have fT:step P (lone (b.atR a (.inRegion ops (i::rest)::k)) cs w)=.next (lone (Frame.enter P f args .normal) (b.atR a (.inRegion ops (i::rest)::k)::cs) w'):=
     step_lone_go (by simp_all [stepG.apply,Frame.atR])
    cases e with
    | returned v=>
     refine ⟨_,w'',hR,.head fT (eT.trans (.one ?_))⟩
     grind [step_leave_returned]
    | panicked chain=>grind
    | outgrown=>obtain ⟨_,_,hq⟩:=hR;grind
   case row row args=>
    obtain ⟨v,w'',hR,eT⟩:=h (b.atR a (.inRegion ops (i::rest)::k)) cs;have fT:step P (lone (b.atR a (.inRegion ops (i::rest)::k)) cs w)=.next (lone (Frame.ofRow P row args .normal) (b.atR a (.inRegion ops (i::rest)::k)::cs) w'):=
     step_lone_go (by simp_all [stepG.apply,Frame.atR])
    refine ⟨_,w'',hR,.head fT ?_⟩
    grind
   all_goals exact h.elim
  | halt x w'=>cases x <;> simp only [Oper.upon] at h <;> first | exact h.elim | grind
 .rw [Aw hw] at h;have hs:=stepR_op_skip (P:=P) (b:=b) (a:=a) (k:=k) (cs:=cs) (w:=w) (ops:=ops) (i:=i) (rest:=rest) (by grind);rw [ho] at hs;exact ⟨_,w,h,.one hs⟩
theorem y8f {R:Act->World->Prop} {Q:Exit->Act->World->Prop} (hQ: ∀e a w,Q e a w->e=.normal /\R a w) (hnd:HZ ops=true): ∀(l:List Nat) (a:Act) (w:World),wpOps P ops Q l a w->
  ∃a' w',R a' w'/\Steps P (lone (b.atR a (.inRegion ops l::k)) cs w) (lone (b.atR a' k) cs w')
 | [],a,w,h=>⟨a,w,(hQ _ _ _ h).2,.one stepR_region_end⟩
 | i::l,a,w,h=>by
  simp only [wpOps] at h;cases ho:ops[i]? with
  | none=>rw [ho] at h;obtain ⟨a',w',hR,hs⟩:=y8f hQ hnd l a w h;have h1:=stepR_op_skip (P:=P) (b:=b) (a:=a) (k:=k) (cs:=cs) (w:=w) (ops:=ops) (i:=i) (rest:=l) (by simp [ho]);rw [ho] at h1;exact ⟨a',w',hR,.head h1 hs⟩
  | some o=>
   rw [ho] at h;have hno: ∀c,o.op≠ .defer c:=by
    intro c hc;have hm:o∈ops.toList:=(by grind);have:=At.1 hnd o hm
    grind
   have h':if Region.wanted o (yielded ops a.tmps) then o.wp P a w (wpOps P ops Q l) Q else wpOps P ops Q l (a.put o.dst undef) w:=by
    by_cases hw:Region.wanted o (yielded ops a.tmps)=true
    .simp only [hw,if_true] at h ⊢;rcases h with h | ⟨_,a0,w0,h0⟩;all_goals grind
    grind
   obtain ⟨a1,w1,h1,s1⟩:=x4z (b:=b) (k:=k) (cs:=cs) (rest:=l) (fun e a w q=>(hQ e a w q).1) ho hno h';obtain ⟨a',w',hR,hs⟩:=y8f hQ hnd l a1 w1 h1;exact ⟨a',w',hR,s1.trans hs⟩
end ops
end
section
variable {P:Program}
def Sp (ρ:B6) (w:World) (r:Nat):Prop:=r<w.heap.size/\ρ.fz r=none/\ ∀b l,ρ b=some l->l.blk≠r
theorem Sp.ev {ρ ρ':B6} {floor:Nat} {m m':CD} {n n':Nat} {w w':World} (he:Ev ρ ρ' floor m n m' n' w w') {r:Nat} (hs:Sp ρ w r):Sp ρ' w' r/\w'.heap[r]? =w.heap[r]? :=by
 obtain ⟨h1,h2,h3⟩:=hs;refine ⟨⟨A0 h1 he.size,by rw [he.still r h1];exact h2,fun b l hl=> ?_⟩,?_⟩
 .by_cases hb:b<n
  .rw [he.new b hb] at hl;grind
  .rcases he.fresh b l (by omega) hl with h | ⟨b0,l0,e0,_,g0⟩;all_goals grind
 .have:w.heap[r]? =some w.heap[r]:=by simp [h1]
  rw [this];exact he.frame r _ this fun b l hl _=>h3 b l hl
structure Ve (m:List Nat) (w w':World):Prop where
 size:w'.heap.size=w.heap.size
 other: ∀k,k ∉ m->w'.heap[k]? =w.heap[k]?
 os:w'.os=w.os
 tape:w'.tape=w.tape
 output:w'.output=w.output
theorem Ve.refl (m:List Nat) (w:World):Ve m w w:=⟨rfl,fun _ _=>rfl,rfl,rfl,rfl⟩
theorem Ve.put (w:World) (r:Nat) (o:Obj):Ve [r] w (w.putObj r o):=⟨World.putObj_size,fun k hk=>World.putObj_heap_other (by grind),rfl,rfl,rfl⟩
theorem Ve.trans {m m':List Nat} {a b c:World} (h:Ve m a b) (k:Ve m' b c):Ve (m++m') a c:=
 ⟨k.size.trans h.size,fun i hi=>by simp only [AI,not_or] at hi;exact (k.other i hi.2).trans (h.other i hi.1),k.os.trans h.os,k.tape.trans h.tape,k.output.trans h.output⟩
theorem B7.turned {ρ:B6} {mem:CD} {next:Nat} {w w':World} (h:B7 ρ mem next w) {m:List Nat} (hm: ∀r∈m,Sp ρ w r) (ht:Ve m w w'):B7 ρ mem next w':=
 ⟨h.dom,h.inj,fun b l ab e g=>(h.blk b l ab e g).world (B6.le_refl ρ) (ht.other _ fun hr=>(hm _ hr).2.2 b l e rfl),fun k o e=>by
  rw [ht.other k fun hr=>by rw [(hm _ hr).2.1] at e;cases e];exact h.old k o e,
  h.sep,fun b l e=>by rw [ht.size];exact h.real b l e,h.bd,h.ldom⟩
theorem Ev.turned {ρ0 ρ:B6} {floor:Nat} {m0 mem:CD} {n0 next:Nat} {w0 w w':World} (h:Ev ρ0 ρ floor m0 n0 mem next w0 w) {m:List Nat} (hm: ∀r∈m,w0.heap.size<=r) (ht:Ve m w w'):Ev ρ0 ρ floor m0 n0 mem next w0 w':=
 ⟨h.ext,h.new,h.nxt,h.unborn,fun k o hk hf=>by
  have hlt:k<w0.heap.size:=(AN.1 hk).1;rw [ht.other k fun hr=>by grind];exact h.frame k o hk hf,h.fresh,by rw [ht.size];exact h.size,ht.os.trans h.os,ht.tape.trans h.tape,ht.output.trans h.output,h.still⟩
theorem Sp.turned {ρ:B6} {w w':World} {r:Nat} (h:Sp ρ w r) {m:List Nat} (ht:Ve m w w'):Sp ρ w' r:=⟨by rw [ht.size];exact h.1,h.2.1,h.2.2⟩
theorem B7.grow {ρ:B6} {mem:CD} {next:Nat} {w:World} (h:B7 ρ mem next w) (o:Obj):B7 ρ mem next (w.alloc o):=by
 have same: ∀k,k<w.heap.size->(w.alloc o).heap[k]? =w.heap[k]? :=fun k hk=>by
  show (w.heap.push o)[k]? =_
  grind
 exact ⟨h.dom,h.inj,fun b l ab e g=>(h.blk b l ab e g).world (B6.le_refl ρ) (same _ (h.real b l e)),fun k ob e=>by
  have:=h.old k ob e
  grind,h.sep,fun b l e=>by
  have:=h.real b l e
  grind,h.bd,h.ldom⟩
theorem Ev.grow {ρ0 ρ:B6} {floor:Nat} {m0 mem:CD} {n0 next:Nat} {w0 w:World} (h:Ev ρ0 ρ floor m0 n0 mem next w0 w) (o:Obj):Ev ρ0 ρ floor m0 n0 mem next w0 (w.alloc o):=
 ⟨h.ext,h.new,h.nxt,h.unborn,fun k ob hk hf=>by
  have:=h.frame k ob hk hf;have hlt:=(AN.1 this).1;show (w.heap.push o)[k]? =_
  grind,h.fresh,by
  have:=h.size;show _<=(w.heap.push o).size;simp;omega,h.os,h.tape,h.output,h.still⟩
theorem Sp.grow {ρ:B6} {w:World} {r:Nat} (h:Sp ρ w r) (o:Obj):Sp ρ (w.alloc o) r/\(w.alloc o).heap[r]? =w.heap[r]? :=by
 refine ⟨⟨?_,h.2.1,h.2.2⟩,?_⟩
 .have:=h.1;show r<(w.heap.push o).size;simp;omega
 .show (w.heap.push o)[r]? =_;simp [Array.getElem?_push,BK h.1]
theorem Sp.fresh {ρ:B6} {mem:CD} {next:Nat} {w:World} (h:B7 ρ mem next w) (o:Obj):Sp ρ (w.alloc o) w.heap.size:=
 ⟨by simp_all,h.hold _ (Aq _),fun b l e=>BK (h.real b l e)⟩
def lpAdd (ρ:B6) (j l:Nat):B6:=⟨ρ.f,ρ.fz,fun k=>if k=j then some l else ρ.lp k⟩
theorem B7.lp_none {ρ:B6} {mem:CD} {next:Nat} {w:World} (h:B7 ρ mem next w):ρ.lp next=none:=by
 cases e:ρ.lp next with
 | none=>rfl
 | some l=>exact absurd (h.ldom _ _ e) (BY _)
theorem x5d {ρ:B6} {j l:Nat} (h:ρ.lp j=none):ρ.le (lpAdd ρ j l):=⟨fun _ _ e=>e,fun _ _ e=>e,fun k l' e=>by
 show (if k=j then some l else ρ.lp k)=some l'
 grind⟩
theorem B7.lpAdd {ρ:B6} {mem:CD} {next:Nat} {w:World} (h:B7 ρ mem next w) (l:Nat):B7 (lpAdd ρ next l) mem (next+1) w:=
 ⟨fun b l' e=>Bl (h.dom b l' e),h.inj,fun b l' ab e g=>(h.blk b l' ab e g).world (x5d h.lp_none) rfl,h.old,h.sep,h.real,fun b hb=>h.bd b (by omega),fun j l' e=>by
  have e:(if j=next then some l else ρ.lp j)=some l':=e;by_cases hj:j=next
  .omega
  .rw [Aw hj] at e;exact Bl (h.ldom j l' e)⟩
theorem Ev.lpAdd {ρ0 ρ:B6} {floor:Nat} {m0 mem:CD} {n0 next:Nat} {w0 w:World} (h:Ev ρ0 ρ floor m0 n0 mem next w0 w) (hr:B7 ρ mem next w) (l:Nat):Ev ρ0 (lpAdd ρ next l) floor m0 n0 mem (next+1) w0 w:=
 ⟨B6.le_trans h.ext (x5d hr.lp_none),h.new,Nat.le_succ_of_le h.nxt,h.unborn,h.frame,h.fresh,h.size,h.os,h.tape,h.output,h.still⟩
inductive FF (ρ:B6):Item->Item->Prop
 | same (x:Item) (h:N6 x=true):FF ρ x x
 | inR (j l:Nat) (h:ρ.lp j=some l):FF ρ (.inRangeFunc j) (.inRangeFunc l)
 | endR (j l:Nat) (h:ρ.lp j=some l):FF ρ (.endRangeFunc j) (.endRangeFunc l)
abbrev Dm (ρ:B6):List Item->List Item->Prop:=Vi (FF ρ)
theorem Vi.mono {α β:Type} {R R':α->β->Prop} (hr: ∀a b,R a b->R' a b) {l:List α} {m:List β} (h:Vi R l m):Vi R' l m:=by
 induction h with
 | nil=>exact .nil
 | cons h _ ih=>exact .cons (hr _ _ h) ih
theorem FF.mono {ρ ρ':B6} (h:ρ.le ρ') {x y:Item} (hx:FF ρ x y):FF ρ' x y:=by
 cases hx with
 | same x hx=>exact .same x hx
 | inR j l e=>exact .inR j l (h.2.2 _ _ e)
 | endR j l e=>exact .endR j l (h.2.2 _ _ e)
theorem Dm.exit {ρ:B6} {k k':List Item} (h:Dm ρ k k') (id:Nat):(∀r,exitTo id k=some r-> ∃r',exitTo id k'=some r'/\Dm ρ r r')/\(exitTo id k=none->exitTo id k'=none):=by
 induction h with
 | nil=>exact ⟨fun r e=>(by cases e),fun _=>rfl⟩
 | @cons x y l m hx t ih=>
  cases hx with
  | same x hx=>
   cases x with
   | inBlock id'=>
    grind [exitTo]
   | code _=>exact ih
   | inLoop _=>exact ih
   | inScope _=>exact ih
   | beginRound=>exact ih
   | inRegion _ _=>cases hx
   | inRangeFunc _=>cases hx
   | endRangeFunc _=>cases hx
   | call _ _ _ _=>cases hx
   | extern _ _=>cases hx
  | inR j l e=>exact ih
  | endR j l e=>exact ih
def OS (r:Nat):Deferred:={target:=.collected r,args:= #[]}
def Vd (ro:Option CX) (k:List Item):List Item:=match ro with
 | none=>k
 | some (ops,i,_)=>.inRegion ops ((List.range ops.size).drop i)::k
def roOk :Option CX->Prop
 | none=>True
 | some (ops,i,l)=>l=ops.toList.drop i/\HZ ops=true
structure GL (ρ:B6) (cx:CL) (ro:Option CX) (todo:List Item) (rnd:Option Nat) (env:T B2) (b:Frame) (a:Act) (k:List Item) (ms:List Nat):Prop where
 env:Vz ρ env cx.n a.tmps
 defers:a.defers=ms.map OS
 todo:Dm ρ todo k
 ro:roOk ro
 rnd:match rnd with
  | none=>b.roundOf=none
  | some j=>ms=[]/\ ∃l,ρ.lp j=some l/\b.roundOf=some l
theorem GL.mono {ρ ρ':B6} (h:ρ.le ρ') {cx:CL} {ro:Option CX} {todo:List Item} {rnd:Option Nat} {env:T B2} {b:Frame} {a:Act} {k:List Item} {ms:List Nat} (hf:GL ρ cx ro todo rnd env b a k ms):GL ρ' cx ro todo rnd env b a k ms:=
 ⟨hf.env.mono h,hf.defers,hf.todo.mono fun _ _=>FF.mono h,hf.ro,by
  have:=hf.rnd;cases rnd with
  | none=>exact this
  | some j=>obtain ⟨h0,l,h1,h2⟩:=this;exact ⟨h0,l,h.2.2 _ _ h1,h2⟩⟩
def u3o (P:Program) (rnd:Option Nat) (rs:List ResultVar) (b:Frame):Prop:=b.kind=.normal /\(rnd=none-> ∃fn,P.funcs[b.fn]? =some fn/\fn.results.toList=rs)
inductive GK (P:Program) (ρ:B6):List CV->List Frame->List Nat->Prop
 | nil:GK P ρ [] [] []
 | cons {af:CV} {b:Frame} {a:Act} {k:List Item} {ms:List Nat} {cs:List CV} {css:List Frame} {mss:List Nat} (h:GL ρ af.cx af.ro af.todo af.rnd af.env b a k ms)
   (hl:cs≠ []->u3o P af.rnd af.rs b) (t:GK P ρ cs css mss):GK P ρ (af::cs) (b.atR a (Vd af.ro k)::css) (ms++mss)
theorem GK.mono {ρ ρ':B6} (h:ρ.le ρ') {cs:List CV} {css:List Frame} {mss:List Nat} (hc:GK P ρ cs css mss):GK P ρ' cs css mss:=by
 induction hc with
 | nil=>exact .nil
 | cons hf hl t ih=>exact .cons (hf.mono h) hl ih
structure Sl (base:Nat) (ρ:B6) (w:World) (j:Nat) (L:DX) (l:Nat):Prop where
 lp:ρ.lp j=some l
 low:base<=l
 sp:Sp ρ w l
 obj: ∃tmps fn d,w.heap[l]? =some (.loop ⟨L.st,L.pend,fn,tmps,L.params.toArray,L.assign,L.body,d⟩)/\Vz ρ L.env L.n tmps
structure Dv (P:Program) (base:Nat) (ρ:B6) (cs:List CV) (lps:CM) (css:List Frame) (w:World) (m0 m1:List Nat):Prop where
 cs:GK P ρ cs css m1
 nodup:(m0++m1).Nodup
 marks: ∀r∈m0++m1,base<=r/\Sp ρ w r/\w.heap[r]? =some (.deferred (some []))
 loops: ∀j L,D9 lps j=some L-> ∃l,Sl base ρ w j L l
 inj: ∀j j' L L' l,D9 lps j=some L->D9 lps j'=some L'->ρ.lp j=some l->ρ.lp j'=some l->j=j'
theorem Sl.ev {base:Nat} {ρ ρ':B6} {floor:Nat} {m m':CD} {n n':Nat} {w w':World} (he:Ev ρ ρ' floor m n m' n' w w') {j:Nat} {L:DX} {l:Nat} (h:Sl base ρ w j L l):Sl base ρ' w' j L l:=by obtain ⟨h1,h2,h3,tmps,fn,d,h4,h5⟩:=h;obtain ⟨s1,s2⟩:=h3.ev he;exact ⟨he.ext.2.2 _ _ h1,h2,s1,tmps,fn,d,by grind,h5.mono he.ext⟩
theorem Dv.ev {base:Nat} {ρ ρ':B6} {floor:Nat} {m m':CD} {n n':Nat} {w w':World} (he:Ev ρ ρ' floor m n m' n' w w') {cs:List CV} {lps:CM} {css:List Frame} {m0 m1:List Nat} (h:Dv P base ρ cs lps css w m0 m1):Dv P base ρ' cs lps css w' m0 m1:=by
 refine ⟨h.cs.mono he.ext,h.nodup,fun r hr=> ?_,fun j L hL=> ?_,fun j j' L L' l hL hL' e e'=> ?_⟩
 .obtain ⟨h1,h2,h3⟩:=h.marks r hr;obtain ⟨s1,s2⟩:=h2.ev he
  grind
 .obtain ⟨l,hl⟩:=h.loops j L hL;exact ⟨l,hl.ev he⟩
 .obtain ⟨l1,hl1⟩:=h.loops j L hL;obtain ⟨l2,hl2⟩:=h.loops j' L' hL';have e1:=he.ext.2.2 _ _ hl1.lp;have e2:=he.ext.2.2 _ _ hl2.lp;rw [e] at e1;rw [e'] at e2;obtain rfl:=Ag e1;obtain rfl:=Ag e2;exact h.inj j j' L L' l hL hL' hl1.lp hl2.lp
theorem Dv.turned {base:Nat} {ρ:B6} {w w':World} {cs:List CV} {lps:CM} {css:List Frame} {m0 m0' m1:List Nat} (h:Dv P base ρ cs lps css w m0 m1) {m:List Nat} (ht:Ve m w w') (hsub:m0'.Sublist m0) (hm: ∀r∈m,r ∉ m0'++m1) (hl: ∀r∈m,∃ds,w.heap[r]? =some (.deferred ds)):
  Dv P base ρ cs lps css w' m0' m1:=by
 refine ⟨h.cs,h.nodup.sublist (hsub.append (List.Sublist.refl _)),fun r hr=> ?_,fun j L hL=> ?_,h.inj⟩
 .obtain ⟨h1,h2,h3⟩:=h.marks r ((hsub.append (List.Sublist.refl m1)).subset hr);exact ⟨h1,h2.turned ht,by rw [ht.other r fun hrm=>hm r hrm hr];exact h3⟩
 .obtain ⟨l,h1,h2,h3,tmps,fn,d,h4,h5⟩:=h.loops j L hL;refine ⟨l,h1,h2,h3.turned ht,tmps,fn,d,?_,h5⟩;rw [ht.other l fun hlm=> ?_];all_goals grind
theorem Dv.record {base:Nat} {ρ:B6} {w w':World} {cs:List CV} {lps:CM} {css:List Frame} {m0 m1:List Nat} (h:Dv P base ρ cs lps css w m0 m1) {j l:Nat} {L L':DX} (hj:D9 lps j=some L) (hl:Sl base ρ w j L l)
  (hL:Sl base ρ w' j L' l) (ht:Ve [l] w w'):Dv P base ρ cs (GO lps j (some L')) css w' m0 m1:=by
 have fZ:=hl.obj;obtain ⟨tmps,fn,d,h4,_⟩:=fZ;have get: ∀i,D9 (GO lps j (some L')) i=if i=j then some L' else D9 lps i:=fun i=>T.get_set none lps j (some L') i
 refine ⟨h.cs,h.nodup,fun r hr=> ?_,fun i M hM=> ?_,fun i i' M M' l' hM hM' e e'=> ?_⟩
 .obtain ⟨h1,h2,h3⟩:=h.marks r hr;refine ⟨h1,h2.turned ht,?_⟩;rw [ht.other r fun hrm=> ?_];all_goals grind
 .rw [get] at hM;by_cases hij:i=j
  .grind
  .rw [Aw hij] at hM;obtain ⟨l2,q1,q2,q3,tmps2,fn2,d2,q4,q5⟩:=h.loops i M hM;refine ⟨l2,q1,q2,q3.turned ht,tmps2,fn2,d2,?_,q5⟩;rw [ht.other l2 fun hlm=> ?_]
   .exact q4
   .obtain rfl:l2=l:=by grind
    exact hij (h.inj i j M L l2 hM hj q1 hl.lp)
 .rw [get] at hM hM';have old: ∀x N,(if x=j then some L' else D9 lps x)=some N-> ∃N',D9 lps x=some N':=fun x N hx=>by
   grind
  obtain ⟨N,hN⟩:=old i M hM;obtain ⟨N',hN'⟩:=old i' M' hM';exact h.inj i i' N N' l' hN hN' e e'
end
section
variable {P:Program}
structure OP (P:Program) (base:Nat) (C:CB) (ρ:B6) (b:Frame) (a:Act) (k:List Item) (css:List Frame) (w:World) (ma mb:List Nat):Prop where
 top:GL ρ C.cx C.ro C.todo C.rnd C.st.env b a k ma
 lv:C.cs≠ []->u3o P C.rnd C.rs b
 rest:Dv P base ρ C.cs C.lps css w ma mb
 rel:B7 ρ C.st.mem C.st.next w
structure Fl (fl:Nat) (C:CB):Prop where
 cx:C.cx.floor=fl
 cs: ∀af∈C.cs,af.cx.floor=fl
 le:fl<=C.st.next
def Nw (b:Frame):List Frame->FuncId×CallKind×Option Nat
 | []=>(b.fn,b.kind,b.roundOf)
 | c::css=>Nw c css
def F8 (P:Program) (fl:Nat) (C C':CB):Prop:=
 ∀(m0:CD) (n0:Nat) (ρ0:B6) (w0:World) (ρ:B6) (b:Frame) (a:Act) (k:List Item) (css:List Frame) (w:World) (ma mb:List Nat),OP P w0.heap.size C ρ b a k css w ma mb->Ev ρ0 ρ fl m0 n0 C.st.mem C.st.next w0 w-> ∀cs0:List Frame,
  ∃ρ' b' a' k' css' w' ma' mb',Steps P (lone (b.atR a (Vd C.ro k)) (css++cs0) w) (lone (b'.atR a' (Vd C'.ro k')) (css'++cs0) w')/\OP P w0.heap.size C' ρ' b' a' k' css' w' ma' mb'/\Ev ρ0 ρ' fl m0 n0 C'.st.mem C'.st.next w0 w'/\Nw b' css'=Nw b css/\w.heap.size<=w'.heap.size
theorem F8.refl (fl:Nat) (C:CB):F8 P fl C C:=fun m0 n0 ρ0 w0 ρ b a k css w ma mb hs he cs0=>⟨ρ,b,a,k,css,w,ma,mb,Steps.refl _ _,hs,he,rfl,Aq _⟩
structure Ee (P:Program) (fl:Nat) (C C':CB):Prop where
 fls:Fl fl C'
 inv:Wx fl C.st C'.st
 leads:C'.st.ob=true->F8 P fl C C'
theorem Ee.move {fl:Nat} {cx:CL} {todo todo':List Item} {rnd:Option Nat} {rs:List ResultVar} {st:St} {cs:List CV} {lps:CM} (hfl:Fl fl ⟨cx,none,todo,rnd,rs,st,cs,lps⟩)
  (hk: ∀(ρ:B6) (k:List Item),Dm ρ todo k-> ∃k',Dm ρ todo' k'/\ ∀(b:Frame) (a:Act) (css:List Frame) (w:World),step P (lone (b.atR a k) css w)=.next (lone (b.atR a k') css w)):
  Ee P fl ⟨cx,none,todo,rnd,rs,st,cs,lps⟩ ⟨cx,none,todo',rnd,rs,st,cs,lps⟩:=
 ⟨⟨hfl.cx,hfl.cs,hfl.le⟩,Wx.refl _ _,fun ho m0 n0 ρ0 w0 ρ b a k css w ma mb hs he cs0=>by
   obtain ⟨k',ht,fA⟩:=hk ρ k hs.top.todo;exact ⟨ρ,b,a,k',css,w,ma,mb,.one (fA b a _ w),⟨⟨hs.top.env,hs.top.defers,ht,trivial,hs.top.rnd⟩,hs.lv,hs.rest,hs.rel⟩,he,rfl,Aq _⟩⟩
theorem Dm.code {ρ:B6} {c:Code} {t k:List Item} (h:Dm ρ (.code c::t) k): ∃k',k=.code c::k'/\Dm ρ t k':=by
 cases h with
 | cons hx ht=>cases hx;grind
theorem y3j {cs:List Frame}: ∀(ms:List Nat) (fr:Frame) (w:World),fr.mode=.returning ->fr.defers=ms.map OS->ms.Nodup->(∀r∈ms,w.heap[r]? =some (.deferred (some [])))->
  ∃w',Steps P (lone fr cs w) (lone {fr with defers:=[]} cs w')/\Ve ms w w'
 | [],fr,w,hm,hd,_,_=>⟨w,by
   have:{fr with defers:=[]}=fr:=by cases fr;grind
   rw [this];exact Steps.refl _ _,Ve.refl _ _⟩
 | r::ms,fr,w,hm,hd,hn,ho=>by
  have hr:=ho r (by simp);have h1:=step_collected (P:=P) (cs:=cs) (fr:=fr) (d:=OS r) (ds:=ms.map OS) (by rw [hm];simp) (by rw [hd];rfl) rfl (run_takeDeferred hr);rw [List.nodup_cons] at hn;obtain ⟨w',hs,ht⟩:=y3j (cs:=cs) ms {fr with defers:=ms.map OS} (w.putObj r (.deferred none)) hm rfl hn.2 fun r' hr'=>by
   grind [World.putObj_heap_other]
  exact ⟨w',.head h1 hs,(Ve.put w r _).trans ht⟩
theorem y9l {fl base:Nat} {C:CB} {ρ:B6} {b:Frame} {a:Act} {k:List Item} {css:List Frame} {w:World} {ma mb:List Nat} (hs:OP P base C ρ b a k css w ma mb) (hro:C.ro=none) (eK:C.rnd=none) (htodo:C.todo=[]\/ ∃t,C.todo=.code .ret ::t)
  {m0:CD} {n0:Nat} {ρ0:B6} {w0:World} (hb:base=w0.heap.size) (he:Ev ρ0 ρ fl m0 n0 C.st.mem C.st.next w0 w) (cs0:List Frame):
  ∃w',Steps P (lone (b.atR a (Vd C.ro k)) cs0 w) (lone {b.atR {a with defers:=[]} k with mode:=.returning} cs0 w')/\Vz ρ C.st.env C.cx.n a.tmps/\B7 ρ C.st.mem C.st.next w'/\Ev ρ0 ρ fl m0 n0 C.st.mem C.st.next w0 w'/\Dv P base ρ C.cs C.lps css w' [] mb/\w.heap.size<=w'.heap.size:=by
 have hrn:=hs.top.rnd;rw [eK] at hrn;have h1:step P (lone (b.atR a (Vd C.ro k)) cs0 w)=.next (lone {b.atR a k with mode:=.returning} cs0 w):=by
  rw [hro];have ht:=hs.top.todo;rcases htodo with e | ⟨t,e⟩
  .rw [e] at ht;cases ht;exact stepR_end hrn
  .rw [e] at ht;obtain ⟨k',rfl,_⟩:=ht.code;exact stepR_ret hrn
 have hnd:ma.Nodup:=(List.nodup_append.1 hs.rest.nodup).1;obtain ⟨w',h2,ht⟩:=y3j (P:=P) (cs:=cs0) ma {b.atR a k with mode:=.returning} w rfl hs.top.defers hnd fun r hr=>(hs.rest.marks r (by simp [hr])).2.2;refine ⟨w',.head h1 h2,hs.top.env,hs.rel.turned (fun r hr=>(hs.rest.marks r (by simp [hr])).2.1) ht,he.turned (fun r hr=>by rw [<-hb];exact (hs.rest.marks r (by simp [hr])).1) ht,hs.rest.turned ht (List.nil_sublist _) (fun r hr hrm=> ?_) (fun r hr=>⟨_,(hs.rest.marks r (by simp [hr])).2.2⟩),Nat.le_of_eq ht.size.symm⟩;rw [Bc] at hrm;exact (List.nodup_append.1 hs.rest.nodup).2.2 r hr r hrm rfl
theorem x4w {fl base:Nat} {v:B2} {st:St} {lps:CM} {cs:List CV} {C':CB} (h:Ib v st lps cs=some C') (hcs: ∀af∈cs,af.cx.floor=fl) (hle:fl<=st.next):
  Fl fl C'/\C'.st.mem=st.mem/\C'.st.next=st.next/\C'.st.ob=st.ob/\(cs≠ [])/\ ∀(ρ:B6) (css:List Frame) (w:World) (mb:List Nat) (u:Value),VRel ρ v u->Dv P base ρ cs lps css w [] mb->B7 ρ st.mem st.next w->
   ∃c css' b' a' k' ma' mb',css=c::css'/\c.finish u=b'.atR a' (Vd C'.ro k')/\OP P base C' ρ b' a' k' css' w ma' mb'/\Nw b' css'=Nw c css':=by
 unfold Ib at h;split at h
 .rename_i cx ops i o l todo rnd rs env cs';split at h
  .rename_i st' hp;obtain rfl:=Ag h;obtain ⟨p1,p2,p3,p4⟩:=Vg hp;refine ⟨⟨hcs _ (List.mem_cons_self ..),fun af haf=>hcs af (by simp [haf]),by rw [show st'.next=st.next from p2];exact hle⟩,p1,p2,p3,by simp,fun ρ css w mb u hv hr dU=> ?_⟩;obtain ⟨hc,hnd,hmk,hlp,hinj⟩:=hr;cases hc with
   | @cons _ b a k ms _ css' mss hf hl ht=>
    simp only at hf hl;refine ⟨_,css',b,a.put o.dst u,k,ms,mss,rfl,?_,⟨⟨hf.env.put hv ?_,by rw [Act.put_defers'];exact hf.defers,hf.todo,?_,hf.rnd⟩,hl,⟨ht,hnd,hmk,hlp,hinj⟩,?_⟩,by cases css' <;> rfl⟩
    .obtain ⟨hro,_⟩:=hf.ro;have hi:ops.toList[i]? =some o:=by
      have:=AR (·[0]?) hro
      grind
     have hi':ops[i]? =some o:=(by grind);have hlt:i<ops.size:=(AN.1 hi').1;have hd:(List.range ops.size).drop i=i::(List.range ops.size).drop (i+1):=by rw [BA (by grind)];simp
     grind [Vd,Frame.finish_atR]
    .rcases p4 with ⟨e,e2⟩ | ⟨d,e,hlt,e2⟩
     .exact .inl ⟨e,e2⟩
     .exact .inr ⟨d,e,hlt,e2⟩
    .obtain ⟨hro,fB⟩:=hf.ro;refine ⟨?_,fB⟩;have:=AR List.tail hro
     simpa using this
    .show B7 ρ st'.mem st'.next w
     rw [show st'.mem=st.mem from p1,show st'.next=st.next from p2];exact dU
  .cases h
 .rename_i cx j k rnd rs env cs';obtain rfl:=Ag h;refine ⟨⟨hcs _ (List.mem_cons_self ..),fun af haf=>hcs af (by simp [haf]),hle⟩,rfl,rfl,rfl,by simp,fun ρ css w mb u hv hr dU=> ?_⟩;obtain ⟨hc,hnd,hmk,hlp,hinj⟩:=hr;cases hc with
  | @cons _ b a k0 ms _ css' mss hf hl ht=>
   simp only at hf hl;have htd:=hf.todo;cases htd with
   | cons hx htl=>
    cases hx with
    | same _ hp=>cases hp
    | inR _ l hlj=>exact ⟨_,css',b,a,_,ms,mss,rfl,finish_atR_inRangeFunc l u,⟨⟨hf.env,hf.defers,.cons (.endR _ l hlj) htl,trivial,hf.rnd⟩,hl,⟨ht,hnd,hmk,hlp,hinj⟩,dU⟩,by cases css' <;> rfl⟩
 .cases h
theorem v0k {b:Frame} {a:Act} {k:List Item} {cs:List Frame} {w:World} {ops:Array Oper} {i:Nat} {rest:List Nat} {o:Oper} {f:FuncId} {args:Array Value} (ho:ops[i]? =some o) (hnd: ∀c,o.op≠ .defer c) (hw:Region.wanted o (yielded ops a.tmps)=true)
  (hr:(execOp a.eval o).run P w=.ok (.enter f args) w):step P (lone (b.atR a (.inRegion ops (i::rest)::k)) cs w)=.next (lone (Frame.enter P f args .normal) (b.atR a (.inRegion ops (i::rest)::k)::cs) w):=by
 have hg:=stepGR_op (P:=P) (b:=b) (k:=k) (cs:=cs) (w:=w) (rest:=rest) ho hw;rw [Oper.semAt_eq _ _ _ hnd] at hg;exact step_lone_go (by simp_all [stepG.apply,Frame.atR])
theorem v0j {b:Frame} {a:Act} {k:List Item} {cs:List Frame} {w:World} {ops:Array Oper} {i:Nat} {rest:List Nat} {o:Oper} {l:Nat} {f:FuncId} {tmps:Array Value} {assign body:Code} (ho:ops[i]? =some o) (hnd: ∀c,o.op≠ .defer c) (hw:Region.wanted o (yielded ops a.tmps)=true)
  (hr:(execOp a.eval o).run P w=.ok (.round l f tmps assign body) w):step P (lone (b.atR a (.inRegion ops (i::rest)::k)) cs w)=.next (lone (Frame.round l f tmps assign body .normal) (b.atR a (.inRegion ops (i::rest)::k)::cs) w):=by
 have hg:=stepGR_op (P:=P) (b:=b) (k:=k) (cs:=cs) (w:=w) (rest:=rest) ho hw;rw [Oper.semAt_eq _ _ _ hnd] at hg;exact step_lone_go (by simp_all [stepG.apply])
theorem z4l {ρ:B6} {n:Nat}: ∀{ps:List Tmp} {args:List B2} {env env':T B2} {vals:List Value} {tmps:Array Value},x4b n ps args env=some env'->Vz ρ env n tmps->Vi (VRel ρ) args vals->
  ps.length=vals.length/\Vz ρ env' n ((ps.zip vals).foldl (fun t p=>t.setIfInBounds p.1 p.2) tmps)
 | [],[],env,env',vals,tmps,h,he,ha=>by cases ha;obtain rfl:=Ag h;simp_all
 | t::ps,x::args,env,env',vals,tmps,h,he,ha=>by
  cases ha with
  | @cons _ u _ vals hx ha=>
   unfold x4b at h;obtain ⟨hc,h⟩:=Yw h;have hlt:=Ak hc;have he':Vz ρ (T.set .undef env t x) n (tmps.setIfInBounds t u):=by have:=Vz.put (a:=⟨tmps,[]⟩) (dst:=some t) he hx (.inr ⟨t,rfl,hlt,rfl⟩);exact this
   obtain ⟨h1,h2⟩:=z4l h he' ha;simp_all
 | [],_::_,_,_,_,_,h,_,_=>by cases h
 | _::_,[],_,_,_,_,h,_,_=>by cases h
theorem Fl.enter {fl:Nat} {cx:CL} {ro:Option CX} {todo:List Item} {rnd:Option Nat} {rs:List ResultVar} {st:St} {cs:List CV} {lps lps':CM} (h:Fl fl ⟨cx,ro,todo,rnd,rs,st,cs,lps⟩) {n:Nat} {todo':List Item} {rnd':Option Nat} {rs':List ResultVar} {st':St} {ro':Option CX} {td:List Item} {e:T B2} (hn:st.next<=st'.next):
  Fl fl ⟨⟨n,cx.floor,cx.sym⟩,none,todo',rnd',rs',st',⟨cx,ro',td,rnd,rs,e⟩::cs,lps'⟩:=
 ⟨h.cx,fun af haf=>by
  rcases AH.1 haf with rfl | haf
  .exact h.cx
  .exact h.cs af haf,AF h.le hn⟩
theorem x3d {base:Nat} {ρ:B6} {f:FuncId} {args:List B2} {cx:CL} {ro':Option CX} {td:List Item} {rnd:Option Nat} {rs:List ResultVar} {e:T B2} {st:St} {cs:List CV} {lps:CM} {C':CB} {b:Frame} {a:Act} {k:List Item} {css:List Frame} {w:World} {ma mb:List Nat} {vals:Array Value}
  (h:So P f args ⟨cx,ro',td,rnd,rs,e⟩ st cs lps=some C') (hf:GL ρ cx ro' td rnd e b a k ma) (hlv:cs≠ []->u3o P rnd rs b) (hr:Dv P base ρ cs lps css w ma mb) (dU:B7 ρ st.mem st.next w) (dX:Vi (VRel ρ) args vals.toList):
  ∃fn body,P.funcs[f]? =some fn/\fn.body=some body/\C'=⟨⟨Nat.max fn.ntmps args.length,cx.floor,cx.sym⟩,none,[.code body],none,fn.results.toList,st.withEnv (Fb args 0 .leaf),⟨cx,ro',td,rnd,rs,e⟩::cs,lps⟩/\
   ∃b' a' k',Frame.enter P f vals .normal =b'.atR a' (Vd none k')/\OP P base C' ρ b' a' k' (b.atR a (Vd ro' k)::css) w [] (ma++mb):=by
 unfold So at h;split at h
 .rename_i fn hfn;split at h
  .rename_i body hb;obtain rfl:=Ag h;refine ⟨fn,body,hfn,hb,rfl,⟨f, #[],[],[],.run,.normal,none⟩,{tmps:=vals++Array.replicate (fn.ntmps - vals.size) undef,defers:=[]},[.code body],?_,⟨⟨y9i dX fn.ntmps,rfl,.cons (.same _ rfl) .nil,trivial,rfl⟩,fun _=>⟨rfl,fun _=>⟨fn,hfn,rfl⟩⟩,?_,dU⟩⟩
   .grind [Frame.enter,Frame.atR,Vd]
   .exact ⟨.cons hf hlv hr.cs,hr.nodup,hr.marks,hr.loops,hr.inj⟩
  .cases h
 .cases h
theorem XM {ρ:B6} {ops:Array Oper} {o:Oper} {cx:CL} {st st1:St} {e:Bool} (h:HF ops o cx st=some (e,st1)):st1.mem=st.mem/\st1.next=st.next/\(st1.ob=true->st.ob=true/\ ∀{tmps:Array Value},Vz ρ st.env cx.n tmps->Vz ρ st1.env cx.n tmps/\Region.wanted o (yielded ops tmps)=e):=by obtain ⟨w1,w2,w3⟩:=Wh h;refine ⟨w1,w2,fun ho=>⟨(w3 ho).1,fun {tmps} he=>⟨he.congr fun t=>(w3 ho).2 t,Kx h ho he.size fun d _=>he.get d⟩⟩⟩
theorem w1p {ops:Array Oper} {i:Nat} {o:Oper} {l:List Oper} (h:o::l=ops.toList.drop i):ops[i]? =some o/\l=ops.toList.drop (i+1)/\(List.range ops.size).drop i=i::(List.range ops.size).drop (i+1):=by
 have hi:ops.toList[i]? =some o:=by
  have:=AR (·[0]?) h
  grind
 have hi':ops[i]? =some o:=by grind
 have hlt:i<ops.size:=(AN.1 hi').1;refine ⟨hi',?_,?_⟩
 .have:=AR List.tail h
  simpa using this
 .rw [BA (by grind)];simp
theorem XZ {ops:Array Oper} (h:HZ ops=true) {i:Nat} {o:Oper} (ho:ops[i]? =some o) (c:Call):o.op≠ .defer c:=by
 intro hc;have hm:o∈ops.toList:=by grind
 have:=At.1 h o hm
 grind
theorem y9q {ρ:B6} {st:St} {n:Nat} {a:Act} (he:Vz ρ st.env n a.tmps) (args:Array Operand):Vi (VRel ρ) (args.toList.map st.eval) (args.map a.eval).toList :=by rw [Bw];exact Vi.maps _ _ _ fun x _=>he.eval x
theorem w0f {ops:Array Oper} {m i:Nat} (hm:m<=ops.size) (h:i<m):(Wo ops m)[i]? =ops[i]? :=by grind [Wo]
theorem v5y {ops:Array Oper} {m i:Nat} (hm:m<=ops.size) (h:m<=i):(Wo ops m)[i]? =(ops[i]?).map Eq:=by grind [Wo]
theorem x6p {ops:Array Oper} {m:Nat} (hm:m<=ops.size):(Wo ops m).size =ops.size:=by simp [Wo];omega
theorem y1t {ops:Array Oper} {m:Nat} (hm:m<=ops.size) (i:Nat):((Wo ops m)[i]?).map (·.after)=(ops[i]?).map (·.after):=by
 by_cases h:i<m
 .rw [w0f hm h]
 .rw [v5y hm (by omega)];cases ops[i]? <;> rfl
theorem v0h (md:Region.Mode) {ops:Array Oper} {m:Nat} (hm:m<=ops.size) (listed:Array Bool):Region.ready md (Wo ops m) listed=Region.ready md ops listed:=by grind [Region.ready,y1t,Wo]
theorem w6x (md:Region.Mode) {ops:Array Oper} {m:Nat} (hm:m<=ops.size): ∀(fuel t:Nat) (listed:Array Bool) (acc:List Nat),Region.linearise.go md (Wo ops m) fuel t listed acc=Region.linearise.go md ops fuel t listed acc
 | 0,t,listed,acc=>rfl
 | fuel+1,t,listed,acc=>by
  have e:=v0h md hm listed;unfold Region.ready at e;simp only [Region.linearise.go];rw [e];split
  .exact w6x md hm fuel _ _ _
  .rfl
theorem v0t {ops:Array Oper} (fN: ∀(j:Nat) o,ops[j]? =some o-> ∀e∈o.after.toList,Region.binds .any e=true->e.on<j): ∀listed:Array Bool,listed.size=ops.size-> ∀i,i<ops.size->listed.getD i false=false-> ∃j,j∈Region.ready .any ops listed:=by
 intro listed hsz i
 induction i using Nat.strongRecOn with
 | _ i ih=>
  intro hi hl;by_cases h: ∃e∈(ops[i]).after.toList,Region.binds .any e=true/\listed.getD e.on false=false
  .grind
  .refine ⟨i,mem_ready.2 ⟨?_,ops[i],by simp [hi],fun e he hb=> ?_⟩⟩;all_goals grind
theorem w8t {ops:Array Oper} (fN: ∀(j:Nat) o,ops[j]? =some o-> ∀e∈o.after.toList,Region.binds .any e=true->e.on<j) (fuel t:Nat) (listed:Array Bool) (hsz:listed.size=ops.size) (hcl:Ha ops (fun i=>listed.getD i false)) {q:Nat} (hq:q<ops.size) (hl:listed.getD q false=false):
  ∃i x t',ops[i]? =some x/\listed.getD i false=false/\Hd (fun i=>listed.getD i false) x/\Region.linearise.go .any ops (fuel+1) t listed []=i::Region.linearise.go .any ops fuel t' (listed.setIfInBounds i true) []/\
   (listed.setIfInBounds i true).size =ops.size/\Ha ops (fun q=>(listed.setIfInBounds i true).getD q false)/\ ∀q,(listed.setIfInBounds i true).getD q false=(listed.getD q false||q == i):=by
 obtain ⟨j0,hj0⟩:=v0t fN listed hsz q hq hl;have hne:Region.ready .any ops listed≠ []:=fun e=>by grind
 have hlt:t %(Region.ready .any ops listed).length <(Region.ready .any ops listed).length :=Bq _ (List.length_pos_iff.2 hne);have hgo:Region.linearise.go .any ops (fuel+1) t listed []=(match (Region.ready .any ops listed)[t %(Region.ready .any ops listed).length]? with
  | some i=>Region.linearise.go .any ops fuel (t / (Region.ready .any ops listed).length) (listed.setIfInBounds i true) [i]
  | none=>[].reverse):=rfl
 rw [hgo,Au hlt];simp only;have hi:=AV hlt;generalize (Region.ready .any ops listed)[t %(Region.ready .any ops listed).length]=i at hi;obtain ⟨h1,x,hx,hr⟩:=mem_ready.1 hi;have hil:i<ops.size:=(AN.1 hx).1;have hils:i<listed.size:=by omega
 have hif:listed.getD i false=false:=by grind
 rw [linearise_go_acc,List.reverse_singleton,List.singleton_append];have fM: ∀q,(listed.setIfInBounds i true).getD q false=(listed.getD q false||q == i):=fun q=>by
  by_cases hq:q=i
  .simp_all
  .have:(q == i)=false:=by simp [hq]
   rw [this,Bool.or_false];simp [Array.getD_eq_getD_getElem?,Ne.symm hq]
 have eG:Hd (fun i=>listed.getD i false) x:=fun e he hb=>hr e (Array.mem_toList_iff.1 he) hb;refine ⟨i,x,_,hx,hif,eG,rfl,by grind,fun j y hy hs e he hb=> ?_,fM⟩;simp only [fM] at hs ⊢;by_cases hji:j=i
 .grind
 .have hs':listed.getD j false=true:=by grind
  have:=hcl j y hy hs' e he hb
  grind
theorem w8s {ops:Array Oper} {m:Nat} (fN: ∀(j:Nat) o,ops[j]? =some o-> ∀e∈o.after.toList,Region.binds .any e=true->e.on<j) (hf: ∀j x,m<=j->ops[j]? =some x-> ∀i,i<j->KA ops i x):
  ∀(fuel t j:Nat) (listed:Array Bool),listed.size=ops.size->Ha ops (fun i=>listed.getD i false)->m<=j->j+fuel=ops.size->(∀q,q<j->listed.getD q false=true)->(∀q,j<=q->listed.getD q false=false)->Region.linearise.go .any ops fuel t listed []=(List.range ops.size).drop j
 | 0,t,j,listed,hsz,hcl,hj,hn,h1,h2=>by rw [As (by simp;omega)];rfl
 | fuel+1,t,j,listed,hsz,hcl,hj,hn,h1,h2=>by
  obtain ⟨i,x,t',hx,hif,hr,hgo,fW,hcl',fM⟩:=w8t fN fuel t listed hsz hcl (q:=j) (by omega) (h2 j (Aq _));have hij: ¬i<j:=fun e=>by rw [h1 i e] at hif;cases hif
  have e:i=j:=by
   by_cases h:j<i
   .have:listed.getD j false=true:=hf i x (by omega) hx j h _ hcl hr;rw [h2 j (Aq _)] at this;cases this
   .omega
  subst e;rw [hgo,w8s fN hf fuel t' (i+1) _ fW hcl' (by omega) (by omega) (fun q hq=>by
   rw [fM];by_cases e:q=i
   .simp [e]
   .rw [h1 q (by omega)];rfl) (fun q hq=>by
   rw [fM,h2 q (by omega)];simp;omega)]
  rw [BA (show i<(List.range ops.size).length by simp;omega)];simp
theorem u8l {ops:Array Oper} {m:Nat} (fN: ∀(j:Nat) o,ops[j]? =some o-> ∀e∈o.after.toList,Region.binds .any e=true->e.on<j) (hm:m<ops.size) (hf: ∀j x,m<=j->ops[j]? =some x-> ∀i,i<j->KA ops i x):
  ∀(fuel t:Nat) (listed:Array Bool),listed.size=ops.size->Ha ops (fun i=>listed.getD i false)->(List.range ops.size).countP (fun i=> !listed.getD i false)=fuel->(∀q,m<=q->listed.getD q false=false)->
   ∃l,Region.linearise.go .any ops fuel t listed []=l++(List.range ops.size).drop m/\ ∀i∈l,i<m:=by
 intro fuel
 induction fuel with
 | zero=>
  intro t listed hsz _ hc hl;have:=BQ.1 hc m (A6.2 hm)
  grind
 | succ fuel ih=>
  intro t listed hsz hcl hc hl;obtain ⟨i,x,t',hx,hif,hr,hgo,fW,hcl',fM⟩:=w8t fN fuel t listed hsz hcl hm (hl m (Aq _));have hil:i<ops.size:=(AN.1 hx).1;have hc':(List.range ops.size).countP (fun q=> !(listed.setIfInBounds i true).getD q false)=fuel:=by have:=z5a (fun q=> !listed.getD q false) (fun q=> !(listed.setIfInBounds i true).getD q false) i ops.size (fun k hk=>by grind) (by grind) (by grind) hil;omega
  by_cases him:i<m
  .obtain ⟨l,h2,h3⟩:=ih t' (listed.setIfInBounds i true) fW hcl' hc' (fun q hq=>by grind)
   grind
  .have e:i=m:=by
    by_cases h:m<i
    .have:listed.getD m false=true:=hf i x (by omega) hx m h _ hcl hr
     grind
    .omega
   subst e;have fF: ∀q,q<i->listed.getD q false=true:=fun q hq=>hf i x (Aq _) hx q hq _ hcl hr;refine ⟨[],?_,fun q hq=>by cases hq⟩;have hcount:fuel+1+i=ops.size:=by
    rw [<-hc];have key: ∀n,i<=n->n<=ops.size->(List.range n).countP (fun q=> !listed.getD q false)+i=n:=by
     intro n
     induction n with
     | zero=>grind
     | succ n ihn=>
      intro h1 h2;rw [Bj,Bx];by_cases e:i<=n
      .grind
      .have hni:n+1=i:=(by omega);have h0:(List.range n).countP (fun q=> !listed.getD q false)=0:=BQ.2 fun q hq=>by
        grind
       grind
    grind
   grind [w8s]
theorem x0w {b:Frame} {k:List Item} {cs:List Frame} {ops:Array Oper} {Q:Exit->Act->World->Prop} (hQ: ∀e a w,Q e a w->e=.normal) {m:Nat} (hm:m<=ops.size) (hnd:HZ ops=true)
  (hg: ∀i x g,i<m->ops[i]? =some x->x.guard=some g->g.1<m) {r:List Nat} (hr: ∀i∈r,m<=i): ∀(l:List Nat) (a:Act) (w:World),(∀i∈l,i<m)->wpOps P (Wo ops m) Q (l++r) a w->
   ∃a' w',Q .normal a' w'/\Steps P (lone (b.atR a (.inRegion ops (l++r)::k)) cs w) (lone (b.atR a' (.inRegion ops r::k)) cs w')
 | [],a,w,_,h=>by
  refine ⟨a,w,?_,Steps.refl _ _⟩;rw [Bc] at h;clear hg
  induction r with
  | nil=>exact h
  | cons i r ih=>
   refine ih (fun q hq=>hr q (by simp [hq])) ?_;simp only [wpOps] at h;rw [v5y hm (hr i (by simp))] at h;cases ho:ops[i]? with
   | none=>grind
   | some o=>
    rw [ho] at h;simp only [Option.map_some] at h;have hw:Region.wanted (Eq o) (yielded (Wo ops m) a.tmps)=true:=rfl;rw [AG hw] at h;rcases h with h | ⟨_,a0,w0,h0⟩
    .have h:wpOps P (Wo ops m) Q r (a.put none (a.eval (.const (.bool true)))) w:=h;exact h
    grind
 | i::l,a,w,hl,h=>by
  have him:=hl i (by simp);simp only [List.cons_append,wpOps] at h;rw [w0f hm him] at h;have hil:i<ops.size:=by omega
  obtain ⟨x,hx⟩: ∃x,ops[i]? =some x:=⟨ops[i],by simp [hil]⟩
  rw [hx] at h;simp only at h;have hy:Region.wanted x (yielded (Wo ops m) a.tmps)=Region.wanted x (yielded ops a.tmps):=by
   grind [Region.wanted,yielded,w0f]
  rw [hy] at h;have h':if Region.wanted x (yielded ops a.tmps) then x.wp P a w (wpOps P (Wo ops m) Q (l++r)) Q else wpOps P (Wo ops m) Q (l++r) (a.put x.dst undef) w:=by
   by_cases hw:Region.wanted x (yielded ops a.tmps)=true
   .simp only [hw,if_true] at h ⊢;rcases h with h | ⟨_,a0,w0,h0⟩;all_goals grind
   grind
  obtain ⟨a1,w1,h1,s1⟩:=x4z (b:=b) (k:=k) (cs:=cs) (rest:=l++r) hQ hx (XZ hnd hx) h';obtain ⟨a',w',hR,hs⟩:=x0w hQ hm hnd hg hr l a1 w1 (fun q hq=>hl q (by simp [hq])) h1;exact ⟨a',w',hR,s1.trans hs⟩
theorem x0s {st:St} {ops:List Oper}: ∀(l:List Oper) (i:Nat) {m:Nat},x3n st ops l i=some m->i<=m/\m<i+l.length
 | [],i,m,h=>by cases h
 | o::l,i,m,h=>by
  unfold x3n at h;cases hy:u0s st ops o with
  | true=>grind
  | false=>
   rw [hy] at h;have:=x0s l (i+1) h
   grind
theorem v0d {ops:Array Oper} {st:St} {m:Nat} (h:j7g ops st=some m):m<ops.size/\HZ ops=true/\Nd 0 (Wo ops m)=true/\(∀j x,m<=j->(Wo ops m)[j]? =some x-> ∀i,i<j->KA (Wo ops m) i x)/\
  ∀i x g,i<m->ops[i]? =some x->x.guard=some g->g.1<m:=by
 unfold j7g at h;split at h
 .rename_i m' hd;obtain ⟨hc,h⟩:=Yw h;obtain rfl:=Ag h;have hlt:=(x0s _ _ hd).2;rw [Af,Array.length_toList] at hlt;simp only [j0t,Ae] at hc;obtain ⟨hnd,hdr,fF,hgd⟩:=hc;refine ⟨hlt,hnd,hdr,fun j x hj hx i hi=> ?_,fun i x g hi hx hgx=> ?_⟩
  .have hjl:j<ops.size:=by grind [x6p]
   have:=At.1 fF j (A6.2 hjl);simp only [Bs] at this;rcases this with h1 | h1
   .have:=Ak h1;omega
   .exact ((z8w hdr).bits j x hx i (At.1 h1 i (A6.2 hi))).2
  .have h2:=At.1 hgd i (A6.2 hi);rw [hx] at h2;obtain ⟨dst,op,type,pos,after,guard⟩:=x;simp only at hgx;subst hgx;obtain ⟨j,want⟩:=g;exact Ak h2
 .cases h
end
section
variable {P:Program}
theorem v0n {S:B4} {Rc:CC} (hN:Ex P) (hS:Zv P S) (hCI:FG Rc) (hC:Gz P Rc) {fl:Nat} {cx:CL} {ops:Array Oper} {i:Nat} {o:Oper} {l:List Oper} {todo:List Item} {rnd:Option Nat} {rs:List ResultVar} {st:St} {cs:List CV} {lps:CM} {C':CB}
  (hfl:Fl fl ⟨cx,some (ops,i,o::l),todo,rnd,rs,st,cs,lps⟩) (h:v6d P S Rc cx ops i o l todo rnd rs st cs lps=some C'):Ee P fl ⟨cx,some (ops,i,o::l),todo,rnd,rs,st,cs,lps⟩ C':=by
 have plain: ∀st2,Hk P S Rc ops cx (false,o) st=some st2->Ee P fl ⟨cx,some (ops,i,o::l),todo,rnd,rs,st,cs,lps⟩ ⟨cx,some (ops,i+1,l),todo,rnd,rs,st2,cs,lps⟩:=by
  intro st2 h1;have hcx:cx.floor<=st.next:=by have:=hfl.le;have e:=hfl.cx;grind
  have s1:=x1b hN hS hCI hC hcx h1;have e:=hfl.cx;simp only at e;refine ⟨⟨e,hfl.cs,AF hfl.le s1.inv.nxt⟩,by rw [<-e];exact s1.inv,fun ho m0 n0 ρ0 w0 ρ b a k css w ma mb hs he cs0=> ?_⟩;obtain ⟨dY,hdf,htd,⟨hro,fB⟩,eK⟩:=hs.top;simp only at dY hdf htd hro eK;obtain ⟨ho_i,hl',hdrop⟩:=w1p hro;have key:=s1.does ho ρ a w st.eval dY.size (fun _ _=>rfl) (fun d _=>dY.get d) (fun y _=>dY.eval y) hs.rel
   (fun a' w'=> ∃ρ',a'.defers=a.defers/\Vz ρ' st2.env cx.n a'.tmps/\B7 ρ' st2.mem st2.next w'/\Ev ρ ρ' cx.floor st.mem st.next st2.mem st2.next w w') (fun e _ _=>e=.normal) (fun ρ' u w' eP eV hev _=>by
    refine ⟨ρ',Act.put_defers' _ _ _,?_,eV,hev⟩;cases hdst:o.dst with
    | none=>exact ((dY.mono hev.ext).congr fun t=>s1.other ho t (by grind))
    | some d=>
     refine ((dY.mono hev.ext).put (eP d hdst) (.inr ⟨d,rfl,s1.slot d hdst,rfl⟩)).congr fun t=> ?_;rw [T.get_set];split
     .rename_i e;subst e;rfl
     .rename_i e;exact s1.other ho t (by grind))
  obtain ⟨a',w',⟨ρ',hd',he',hr',hev⟩,eT⟩:=x4z (b:=b) (k:=k) (cs:=css++cs0) (rest:=(List.range ops.size).drop (i+1)) (fun e a w h=>h) ho_i (XZ fB ho_i) key;refine ⟨ρ',b,a',k,css,w',ma,mb,by rw [Vd,hdrop];exact eT,⟨⟨he',by grind,htd.mono fun _ _=>FF.mono hev.ext,⟨hl',fB⟩,?_⟩,hs.lv,hs.rest.ev hev,hr'⟩,he.trans (by grind),rfl,hev.size⟩;exact ((⟨dY,hdf,htd,⟨hro,fB⟩,eK⟩:GL ρ cx (some (ops,i,o::l)) todo rnd st.env b a k ma).mono hev.ext).rnd
 unfold v6d at h;split at h
 .rename_i st1 hw;split at h
  .-- a function is entered
   rename_i g args eX;obtain ⟨w1,w2,w3⟩:=XM (ρ:=⟨fun _=>none,fun _=>none,fun _=>none⟩) hw;have hCeq: ∃fn body,P.funcs[g]? =some fn/\fn.body=some body/\C'=⟨⟨Nat.max fn.ntmps args.length,cx.floor,cx.sym⟩,none,[.code body],none,fn.results.toList,st1.withEnv (Fb args 0 .leaf),⟨cx,some (ops,i,o::l),todo,rnd,rs,st1.env⟩::cs,lps⟩:=by
    grind [So]
   obtain ⟨fn,body,hfn,hb,hCe⟩:=hCeq;have hmem:C'.st.mem=st.mem:=by rw [hCe];exact w1
   have hnext:C'.st.next=st.next:=by rw [hCe];exact w2
   refine ⟨by rw [hCe];exact hfl.enter (Nat.le_of_eq w2.symm),Wx.same hmem hnext fun ho=>(w3 (by rw [hCe] at ho;exact ho)).1,fun ho m0 n0 ρ0 w0 ρ b a k css w ma mb hs he cs0=> ?_⟩;have ho1:st1.ob=true:=by rw [hCe] at ho;exact ho
   obtain ⟨dY,hdf,htd,⟨hro,fB⟩,eK⟩:=hs.top;simp only at dY hdf htd hro eK;obtain ⟨ho_i,hl',hdrop⟩:=w1p hro;obtain ⟨_,_,w3'⟩:=XM (ρ:=ρ) hw;obtain ⟨fV,hwt⟩:=(w3' ho1).2 dY;have hexec: ∃vals,(execOp a.eval o).run P w=.ok (.enter g vals) w/\Vi (VRel ρ) args vals.toList:=by
    obtain ⟨dst,op,type,pos,after,guard⟩:=o;simp only at eX ⊢;unfold callee at eX;split at eX
    .rename_i f cargs argTypes;split at eX
     .rename_i g' caps hg;split at eX
      .cases eX
      .simp only [Ad,Sum.inl.injEq,Ac] at eX;obtain ⟨rfl,rfl⟩:=eX;have hf:=fV.eval f;rw [hg] at hf;generalize hw':a.eval f=u at hf;cases hf with
       | fn _ _ cvs hl hh=>
        have:=To hN hfn (by rw [hb];rfl) (cargs.map a.eval++cvs) w
        grind [execOp,resolve,Deferred.ofValue,invoke,Vi.append,y9q,Vi.of]
     .rename_i g' first hg
      split at eX
      .cases eX
      .simp only [Ad,Sum.inl.injEq,Ac] at eX;obtain ⟨rfl,rfl⟩:=eX;have hf:=fV.eval f;rw [hg] at hf;generalize hw':a.eval f=u at hf;cases hf with
       | fnb _ _ cvs hl hh=>
        have:=To hN hfn (by rw [hb];rfl) (cvs++cargs.map a.eval) w
        grind [execOp,resolve,Deferred.ofValue,invoke,Vi.append,Vi.of,y9q]
     all_goals grind
    .cases eX
   obtain ⟨vals,hex,dX⟩:=hexec;have fA:=v0k (b:=b) (k:=k) (cs:=css++cs0) (rest:=(List.range ops.size).drop (i+1)) ho_i (XZ fB ho_i) hwt hex;obtain ⟨_,_,_,_,_,b',a',k',hen,hsr⟩:=x3d h (⟨fV,hdf,htd,⟨hro,fB⟩,eK⟩) hs.lv hs.rest (by rw [w1,w2];exact hs.rel) dX;refine ⟨ρ,b',a',k',_,w,_,_,.one ?_,hsr,by grind,by cases css <;> rfl,Aq _⟩
   grind [Vd]
  .-- a round is entered
   rename_i j args eX;obtain ⟨w1,w2,w3⟩:=XM (ρ:=⟨fun _=>none,fun _=>none,fun _=>none⟩) hw;unfold j3m at h;split at h
   .rename_i Cn lpend ln lenv lparams lassign lbody hlg;split at h
    .rename_i env' hsa;obtain rfl:=Ag h;refine ⟨hfl.enter (Nat.le_of_eq w2.symm),Wx.same w1 w2 fun ho=>(w3 ho).1,fun ho m0 n0 ρ0 w0 ρ b a k css w ma mb hs he cs0=> ?_⟩;have ho1:st1.ob=true:=ho;obtain ⟨dY,hdf,htd,⟨hro,fB⟩,eK⟩:=hs.top;simp only at dY hdf htd hro eK;obtain ⟨ho_i,hl',hdrop⟩:=w1p hro;obtain ⟨_,_,w3'⟩:=XM (ρ:=ρ) hw;obtain ⟨fV,hwt⟩:=(w3' ho1).2 dY;obtain ⟨lr,hlp,hlow,hsp,ltmps,lfn,ld,fZ,fK⟩:=hs.rest.loops j _ hlg;simp only at fZ fK;have hexec: ∃vals:Array Value,Vi (VRel ρ) args vals.toList/\(execOp a.eval o).run P w=.ok (.round lr lfn ((lparams.toArray.zip vals).foldl (fun tmps (t,x)=>tmps.setIfInBounds t x) ltmps) lassign lbody) w:=by
      obtain ⟨dst,op,type,pos,after,guard⟩:=o;simp only at eX ⊢;unfold callee at eX;split at eX
      .rename_i f cargs argTypes;split at eX
       .grind
       .grind
       .rename_i j' hg;simp only [Ad,Sum.inr.injEq,Ac] at eX;obtain ⟨rfl,rfl⟩:=eX;have hf:=fV.eval f;rw [hg] at hf;generalize hw':a.eval f=u at hf;cases hf with
        | yld _ l' hl'=>rw [hlp] at hl';obtain rfl:=Ag hl';have hca:=y9q fV cargs;obtain ⟨dV,_⟩:=z4l hsa fK hca;refine ⟨cargs.map a.eval,hca,?_⟩;simp_all [run_yield,execOp,resolve,Deferred.ofValue,invoke]
       .cases eX
      .cases eX
     obtain ⟨vals,dX,hex⟩:=hexec;obtain ⟨_,henv'⟩:=z4l hsa fK dX;have fA:=v0j (b:=b) (k:=k) (cs:=css++cs0) (rest:=(List.range ops.size).drop (i+1)) ho_i (XZ fB ho_i) hwt hex;refine ⟨ρ,⟨lfn, #[],[],[],.run,.normal,some lr⟩,{tmps:=(lparams.toArray.zip vals).foldl (fun tmps (t,x)=>tmps.setIfInBounds t x) ltmps,defers:=[]},[.code lassign,.beginRound,.code lbody],b.atR a (Vd (some (ops,i,o::l)) k)::css,w,[],ma++mb,.one ?_,⟨⟨?_,rfl,.cons (.same _ rfl) (.cons (.same _ rfl) (.cons (.same _ rfl) .nil)),trivial,⟨rfl,lr,hlp,rfl⟩⟩,fun _=>⟨rfl,fun h0=>by cases h0⟩,?_,by rw [show (st1.withEnv env').mem =st.mem from w1,show (st1.withEnv env').next =st.next from w2];exact hs.rel⟩,by rw [show (st1.withEnv env').mem =st.mem from w1,show (st1.withEnv env').next =st.next from w2];exact he,by cases css <;> rfl,Aq _⟩
     .simp only [Vd,hdrop];exact fA
     .have:(lparams.toArray.zip vals).foldl (fun tmps (t,x)=>tmps.setIfInBounds t x) ltmps=(lparams.zip vals.toList).foldl (fun t p=>t.setIfInBounds p.1 p.2) ltmps:=by rw [<-Array.foldl_toList];simp
      simp only [this];exact henv'
     .exact ⟨.cons ⟨fV,hdf,htd,⟨hro,fB⟩,eK⟩ hs.lv hs.rest.cs,hs.rest.nodup,hs.rest.marks,hs.rest.loops,hs.rest.inj⟩
    .cases h
   .cases h
  grind [Hk]
 all_goals grind [Hk]
end
section
variable {P:Program}
theorem x6o {ops:Array Oper} {z:Nat}: ∀{l:List Nat},Ht ops l=some z->Nd z ops=true
 | [],h=>by cases h
 | x::l,h=>by
  unfold Ht at h;rcases Ky h with ⟨h1,h⟩ | ⟨_,h⟩
  .obtain rfl:=Ag h;exact h1
  .exact x6o h
theorem v2y {ops:Array Oper} {z:Nat} (h:t1v ops=some z):Nd z ops=true/\HZ ops=true:=by unfold t1v at h;obtain ⟨hn,h⟩:=Yw h;exact ⟨x6o h,hn⟩
theorem Dm.item {ρ:B6} {x:Item} {t k:List Item} (hx:N6 x=true) (h:Dm ρ (x::t) k): ∃k',k=x::k'/\Dm ρ t k':=by
 cases h with
 | cons h ht=>
  cases h with
  | same _ _=>grind
  | inR j l e=>cases hx
  | endR j l e=>cases hx
theorem y8v {fl:Nat} {cx:CL} {todo:List Item} {rnd:Option Nat} {rs:List ResultVar} {st:St} {cs:List CV} {lps:CM} {jump:Option Code} {C':CB} (hfl:Fl fl ⟨cx,none,todo,rnd,rs,st,cs,lps⟩)
  (h:UU P rnd rs st cs lps jump=some C') (hj:(todo=[]/\jump=none)\/(∃t,todo=.code .ret ::t/\jump=some .ret)\/(∃id t,todo=.code (.exit id)::t/\exitTo id t=none/\jump=some (.exit id)/\rnd.isSome=true)):
  Ee P fl ⟨cx,none,todo,rnd,rs,st,cs,lps⟩ C':=by
 unfold UU at h;split at h
 .split at h
  .rename_i vs hvs;obtain ⟨hfl',hm,hn,hob,hne,key⟩:=x4w (P:=P) (base:=0) h hfl.cs hfl.le;refine ⟨hfl',Wx.same hm hn fun ho=>by grind,fun ho m0 n0 ρ0 w0 ρ b a k css w ma mb hs he cs0=> ?_⟩;obtain ⟨_,_,_,_,_,key⟩:=x4w (P:=P) (base:=w0.heap.size) h hfl.cs hfl.le;have htd:todo=[]\/ ∃t,todo=.code .ret ::t:=by
    grind
   obtain ⟨w',eT,dY,dU,hev,eU,hsz⟩:=y9l hs rfl rfl htd rfl he (css++cs0);obtain ⟨hk,hfn⟩:=hs.lv hne;obtain ⟨fn,hfn,hrs⟩:=hfn rfl;simp only at hrs hfn;obtain ⟨u,hu,fX⟩:=z4p (fn:=fn) dY dU (by rw [hrs];exact hvs);obtain ⟨c,css',b',a',k',ma',mb',rfl,hfin,hsr,hbot⟩:=key ρ css w' mb u hu eU dU;refine ⟨ρ,b',a',k',css',w',ma',mb',eT.trans (.one ?_),hsr,by grind,by rw [hbot];rfl,hsz⟩;rw [<-hfin];exact step_leave_returned (fr:={b.atR {a with defers:=[]} k with mode:=.returning}) ⟨rfl,rfl,hk,fn,hfn,fX⟩
  .cases h
 .rename_i j;split at h
  .rename_i Cn lpend ln lenv lparams lassign lbody hlg;obtain ⟨hfl',hm,hn,hob,hne,_⟩:=x4w (P:=P) (base:=0) h hfl.cs hfl.le;refine ⟨hfl',Wx.same hm hn fun ho=>by grind,fun ho m0 n0 ρ0 w0 ρ b a k css w ma mb hs he cs0=> ?_⟩;obtain ⟨_,_,_,_,_,key⟩:=x4w (P:=P) (base:=w0.heap.size) h hfl.cs hfl.le;obtain ⟨rfl,lr0,hlp0,hro⟩:=hs.top.rnd;obtain ⟨lr,hla⟩:=hs.rest.loops j _ hlg;have hla':=hla;obtain ⟨hlp,hlow,hsp,ltmps,lfn,ld,fZ,fK⟩:=hla;rw [hlp] at hlp0;obtain rfl:=Ag hlp0;have dW:=run_endRound (P:=P) jump fZ;have hlst:(if jump.isNone then LoopState.ready else LoopState.done)=UT jump:=by cases jump <;> rfl
   rw [hlst] at dW;have eU:=hs.rest.record (w':=w.putObj lr (.loop ⟨UT jump,jump,lfn,ltmps,lparams.toArray,lassign,lbody,ld⟩)) hlg hla' (L':=⟨UT jump,jump,ln,lenv,lparams,lassign,lbody⟩)
    ⟨hlp,hlow,hsp.turned (Ve.put _ _ _),ltmps,lfn,ld,World.putObj_heap_same hsp.1,fK⟩ (Ve.put _ _ _)
   obtain ⟨c,css',b',a',k',ma',mb',rfl,hfin,hsr,hbot⟩:=key ρ css _ mb (.bool jump.isNone) (.bool _) eU (hs.rel.turned (fun r hr=>by grind) (Ve.put _ _ _));have hev:=he.turned (m:=[lr]) (fun r hr=>by grind) (Ve.put w lr (.loop ⟨UT jump,jump,lfn,ltmps,lparams.toArray,lassign,lbody,ld⟩));refine ⟨ρ,b',a',k',css',_,ma',mb',.one ?_,hsr,by grind,by rw [hbot];rfl,Nat.le_of_eq (Ve.put _ _ _).size.symm⟩;obtain ⟨hk,_⟩:=hs.lv hne;rw [<-hfin];have htd:=hs.top.todo;rcases hj with ⟨rfl,rfl⟩ | ⟨t,rfl,rfl⟩ | ⟨id,t,rfl,hx,rfl,_⟩
   .cases htd;exact stepR_round_end hro hk dW
   .obtain ⟨k',rfl,_⟩:=htd.code;exact stepR_round_ret hro hk dW
   .obtain ⟨k',rfl,ht⟩:=htd.code;exact stepR_round_exit hro hk ((ht.exit id).2 hx) dW
  .cases h
theorem x6q {S:B4} {Rc:CC} (hN:Ex P) (hmx:P.follows .mixedOrders =true) (hS:Zv P S) (hCI:FG Rc) (hC:Gz P Rc) {fl:Nat} {C C':CB} (hfl:Fl fl C) (h:TS P S Rc C=some C'):Ee P fl C C':=by
 unfold TS at h;split at h
 .-- a region's end
  rename_i ops i todo rnd rs st cs lps;obtain rfl:=Ag h;refine ⟨⟨hfl.cx,hfl.cs,hfl.le⟩,Wx.refl _ _,fun ho m0 n0 ρ0 w0 ρ b a k css w ma mb hs he cs0=> ?_⟩;obtain ⟨dY,hdf,htd,⟨hro,fB⟩,eK⟩:=hs.top;refine ⟨ρ,b,a,k,css,w,ma,mb,.one ?_,⟨⟨dY,hdf,htd,trivial,eK⟩,hs.lv,hs.rest,hs.rel⟩,he,rfl,Aq _⟩;have hge:ops.size<=i:=by simp_all
  have:(List.range ops.size).drop i=[]:=As (by grind)
  grind [Vd,stepR_region_end]
 .exact v0n hN hS hCI hC hfl h
 .rename_i cx todo rnd rs st cs lps;split at h
  .grind [y8v]
  .grind [y8v]
  .obtain rfl:=Ag h;exact Ee.move hfl fun ρ k hk=>by obtain ⟨k',rfl,ht⟩:=hk.code;grind [stepR_skip]
  .obtain rfl:=Ag h;exact Ee.move hfl fun ρ k hk=>by obtain ⟨k',rfl,ht⟩:=hk.code;grind [stepR_label]
  .obtain rfl:=Ag h;exact Ee.move hfl fun ρ k hk=>by obtain ⟨k',rfl,ht⟩:=Dm.item rfl hk;grind [stepR_inBlock]
  .obtain rfl:=Ag h;exact Ee.move hfl fun ρ k hk=>by obtain ⟨k',rfl,ht⟩:=Dm.item rfl hk;exact ⟨k',ht,fun b a css w=>step_lone_go (by simp [stepG,stepG.exec,Frame.atR])⟩
  .obtain rfl:=Ag h;exact Ee.move hfl fun ρ k hk=>by obtain ⟨k',rfl,ht⟩:=hk.code;exact ⟨_,.cons (.same _ rfl) (.cons (.same _ rfl) ht),fun b a css w=>stepR_seq⟩
  .-- a test
   rename_i c x y k0;split at h
   .rename_i v hv;split at h;rename_i e st1 ht;obtain rfl:=Ag h;obtain ⟨t1,t2,t3,t4⟩:=y7a ht;refine ⟨⟨hfl.cx,hfl.cs,by have:=hfl.le;grind⟩,Wx.same t2 t3 fun ho=>(t4 ho).2,fun ho m0 n0 ρ0 w0 ρ b a k css w ma mb hs he cs0=> ?_⟩;obtain ⟨rfl,_⟩:=t4 ho;obtain ⟨dY,hdf,htd,hro,eK⟩:=hs.top;obtain ⟨k',rfl,htl⟩:=htd.code;have hc:=dY.eval c;rw [hv] at hc;have hev:a.eval c=.bool e:=by generalize a.eval c=u at hc;cases hc;rfl
    refine ⟨ρ,b,a,_,css,w,ma,mb,.one (stepR_cond hev),⟨⟨by grind,hdf,.cons ?_ htl,trivial,eK⟩,hs.lv,hs.rest,by rw [t2,t3];exact hs.rel⟩,by grind,rfl,Aq _⟩;cases e <;> exact .same _ rfl
   .cases h
  .obtain rfl:=Ag h;exact Ee.move hfl fun ρ k hk=>by obtain ⟨k',rfl,ht⟩:=hk.code;exact ⟨_,.cons (.same _ rfl) (.cons (.same _ rfl) ht),fun b a css w=>stepR_block⟩
  .obtain rfl:=Ag h;exact Ee.move hfl fun ρ k hk=>by obtain ⟨k',rfl,ht⟩:=hk.code;exact ⟨_,.cons (.same _ rfl) (.cons (.same _ rfl) ht),fun b a css w=>step_lone_go (by simp [stepG,stepG.exec,Frame.atR])⟩
  .obtain rfl:=Ag h;exact Ee.move hfl fun ρ k hk=>by obtain ⟨k',rfl,ht⟩:=hk.code;exact ⟨_,.cons (.same _ rfl) (.cons (.same _ rfl) ht),fun b a css w=>stepR_loop⟩
  .obtain rfl:=Ag h;exact Ee.move hfl fun ρ k hk=>by obtain ⟨k',rfl,ht⟩:=Dm.item rfl hk;exact ⟨_,.cons (.same _ rfl) (.cons (.same _ rfl) ht),fun b a css w=>stepR_inLoop⟩
  .-- an exit
   rename_i id k0;split at h
   .rename_i k1 hx;obtain rfl:=Ag h;exact Ee.move hfl fun ρ k hk=>by
     obtain ⟨k',rfl,ht⟩:=hk.code;obtain ⟨r',h1,h2⟩:=(ht.exit id).1 _ hx
     grind [stepR_exit]
   grind [y8v]
  .-- a region in the order of the text
   rename_i id ops k0;obtain ⟨fB,h⟩:=Yw h;obtain rfl:=Ag h;refine ⟨⟨hfl.cx,hfl.cs,hfl.le⟩,Wx.refl _ _,fun ho m0 n0 ρ0 w0 ρ b a k css w ma mb hs he cs0=> ?_⟩;obtain ⟨dY,hdf,htd,hro,eK⟩:=hs.top;obtain ⟨k',rfl,htl⟩:=htd.code;exact ⟨ρ,b,a,k',css,w,ma,mb,.one stepR_region,⟨⟨dY,hdf,htl,⟨rfl,fB⟩,eK⟩,hs.lv,hs.rest,hs.rel⟩,he,rfl,Aq _⟩
  .-- a region that draws its order
   rename_i id ops k0;split at h
   .-- it hands out a round
    rename_i m hty;split at h
    .rename_i st1 hop;obtain rfl:=Ag h;obtain ⟨hm,fB,eW,hfor,hgd⟩:=v0d hty;have hm':=Nat.le_of_lt hm;have hi:=y8h hCI _ _ _ _ hop;have e:=hfl.cx;simp only at e;have hcx:cx.floor<=st.next:=by have:=hfl.le;grind
     refine ⟨⟨e,hfl.cs,AF hfl.le hi.nxt⟩,by grind,fun ho m0 n0 ρ0 w0 ρ b a k css w ma mb hs he cs0=> ?_⟩;obtain ⟨dY,hdf,htd,hro,eK⟩:=hs.top;obtain ⟨k',rfl,htl⟩:=htd.code;have hw:=y0i hN hS hCI hC hcx eW hop ho hdf dY (hs.rel.drawn (w.drawn+1));have hw2:=wpAny_sound (Wo ops m).size (w.tape w.drawn (.order b.fn id)) _ a _ hw;rw [w6x _ hm',x6p hm'] at hw2;have back: ∀(j:Nat) x,ops[j]? =some x-> ∃y,(Wo ops m)[j]? =some y/\y.after=x.after:=fun j x hx=>by
      grind [y1t]
     have fN: ∀(j:Nat) x,ops[j]? =some x-> ∀e∈x.after.toList,Region.binds .any e=true->e.on<j:=fun j x hx e he hb=>by obtain ⟨y,hy,hya⟩:=back j x hx;exact (z8w eW).ord j y hy e (by grind) hb
     have hcl0: ∀S,Ha ops S->Ha (Wo ops m) S:=fun S hc j y hy hS e he hb=>by
      have hsa:=y1t hm' j;rw [hy] at hsa;cases hsx:ops[j]? with
      | none=>grind
      | some x=>rw [hsx] at hsa;simp only [Option.map_some,Ad] at hsa;exact hc j x hsx hS e (by grind) hb
     have hfor': ∀j x,m<=j->ops[j]? =some x-> ∀i,i<j->KA ops i x:=fun j x hj hx i hij S hc hr=>by obtain ⟨y,hy,hya⟩:=back j x hx;exact hfor j y hj hy i hij S (hcl0 S hc) fun e he hb=>hr e (by grind) hb
     have fH: ∀i,(Array.replicate ops.size false).getD i false=false:=fun i=>by by_cases hi:i<ops.size <;> simp [hi]
     obtain ⟨l,hl,hlm⟩:=u8l fN hm hfor' ops.size (w.tape w.drawn (.order b.fn id)) (Array.replicate ops.size false) (by simp) (fun j x hx hS=>by grind) (by
      simp_all) (fun q _=>fH q)
     rw [hl] at hw2;obtain ⟨a',w',⟨_,hd',ρ',q1,q2,q3⟩,eT⟩:=x0w (b:=b) (k:=k') (cs:=css++cs0) (fun e a w hq=>hq.1) hm' fB hgd (r:=(List.range ops.size).drop m) (fun i hi=>by
      obtain ⟨n,hn,rfl⟩:=AJ hi;simp) l a _ hlm hw2
     have hev:=q3.drawn;refine ⟨ρ',b,a',k',css,w',ma,mb,.head stepR_region_draw ?_,⟨⟨q1,hd',htl.mono fun _ _=>FF.mono hev.ext,⟨rfl,fB⟩,?_⟩,hs.lv,hs.rest.ev hev,q2⟩,he.trans (by grind),rfl,hev.size⟩
     .grind [Region.schedule,Vd,Region.linearise]
     .exact ((⟨dY,hdf,htd,hro,eK⟩:GL ρ cx none _ rnd st.env b a _ ma).mono hev.ext).rnd
    .cases h
   split at h;rename_i z hlz;obtain ⟨eW,fB⟩:=v2y hlz;split at h
   .rename_i st1 hop;obtain rfl:=Ag h;have hi:=y8h hCI _ _ _ _ hop;have e:=hfl.cx;simp only at e;have hcx:cx.floor<=st.next:=by have:=hfl.le;grind
    refine ⟨⟨e,hfl.cs,AF hfl.le hi.nxt⟩,by grind,fun ho m0 n0 ρ0 w0 ρ b a k css w ma mb hs he cs0=> ?_⟩;obtain ⟨dY,hdf,htd,hro,eK⟩:=hs.top;obtain ⟨k',rfl,htl⟩:=htd.code;have hw:=y0i hN hS hCI hC hcx eW hop ho hdf dY (hs.rel.drawn (w.drawn+1));have hw2:=wpAny_sound ops.size (w.tape w.drawn (.order b.fn id)) _ a _ hw;obtain ⟨a',w',⟨hd',ρ',q1,q2,q3⟩,eT⟩:=y8f (b:=b) (k:=k') (cs:=css++cs0) (fun e a w hq=>hq) fB _ _ _ hw2;have hev:=q3.drawn;refine ⟨ρ',b,a',k',css,w',ma,mb,.head stepR_region_draw ?_,⟨⟨q1,hd',htl.mono fun _ _=>FF.mono hev.ext,trivial,?_⟩,hs.lv,hs.rest.ev hev,q2⟩,he.trans (by grind),rfl,hev.size⟩
    .simp only [Region.schedule,hmx,Bool.true_or,if_true];exact eT
    .exact ((⟨dY,hdf,htd,hro,eK⟩:GL ρ cx none _ rnd st.env b a _ ma).mono hev.ext).rnd
   all_goals grind
  .-- a loop over a function
   rename_i f params assign body k0;split at h
   .rename_i g caps hg;obtain ⟨env,mem,next,orc,ob⟩:=st;simp only [St.nextId] at h;obtain ⟨hrk,h⟩:=Yw h;have hCeq: ∃fn fbody,P.funcs[g]? =some fn/\fn.body=some fbody/\C'=⟨⟨Nat.max fn.ntmps (B2.yld next::caps).length,cx.floor,cx.sym⟩,none,[.code fbody],none,fn.results.toList,St.withEnv ⟨env,mem,next+1,orc,ob⟩ (Fb (B2.yld next::caps) 0 .leaf),⟨cx,none,.inRangeFunc next::k0,rnd,rs,env⟩::cs,GO lps next (some ⟨.ready,none,cx.n,env,params.toList,assign,body⟩)⟩:=by
     grind [So]
    obtain ⟨fn,fbody,hfn,hb,hCe⟩:=hCeq;refine ⟨by rw [hCe];exact hfl.enter (B0 _),?_,fun ho m0 n0 ρ0 w0 ρ b a k css w ma mb hs he cs0=> ?_⟩
    .rw [hCe];exact ⟨B0 _,fun hbd x hx=>hbd x (Nat.le_of_succ_le hx),fun _ _ _=>rfl,fun ho=>ho⟩
    obtain ⟨dY,hdf,htd,hro,eK⟩:=hs.top;obtain ⟨k',rfl,htl⟩:=htd.code;have dU:=hs.rel;simp only at dY dU he eK hdf htl;have lay: ∃l mk w1 d,(Instr.enterLoop b.fn a.tmps params assign body b.roundOf).run P w=.ok (l,(mk:List Nat).map OS) w1/\w1.heap[l]? =some (.loop ⟨.ready,none,b.fn,a.tmps,params,assign,body,d⟩)/\w0.heap.size<=l/\Sp ρ w1 l/\B7 ρ mem next w1/\Ev ρ0 ρ fl m0 n0 mem next w0 w1/\(rnd.isSome=true->mk=[])/\
      Dv P w0.heap.size ρ cs lps css w1 (mk++ma) mb/\(∀j L l',D9 lps j=some L->ρ.lp j=some l'->l'≠l)/\w.heap.size<=w1.heap.size:=by
     have gr: ∀(w1:World) (o:Obj) (mk:List Nat),Dv P w0.heap.size ρ cs lps css w1 mk mb->Dv P w0.heap.size ρ cs lps css (w1.alloc o) mk mb:=fun w1 o mk hr=>
      ⟨hr.cs,hr.nodup,fun r hx=>by obtain ⟨q1,q2,q3⟩:=hr.marks r hx;exact ⟨q1,(q2.grow o).1,by rw [(q2.grow o).2];exact q3⟩,fun j L hL=>by
       obtain ⟨l,q1,q2,q3,tm,fn',d,q4,q5⟩:=hr.loops j L hL;exact ⟨l,q1,q2,(q3.grow o).1,tm,fn',d,by rw [(q3.grow o).2];exact q4,q5⟩,hr.inj⟩
     have far: ∀(w1:World),Dv P w0.heap.size ρ cs lps css w1 ma mb-> ∀j L l',D9 lps j=some L->ρ.lp j=some l'->l'<w1.heap.size:=fun w1 hr j L l' hL e=>by obtain ⟨l2,q⟩:=hr.loops j L hL;have:=q.lp;rw [e] at this;obtain rfl:=Ag this;exact q.sp.1
     cases hr:b.roundOf with
     | none=>
      have hrn:rnd=none:=by
       grind
      subst hrn;have hs1:Sp ρ (w.alloc (.deferred (some []))) w.heap.size:=Sp.fresh dU _;have eZ:=dU.grow (.deferred (some []));have hsz1:(w.alloc (.deferred (some []))).heap.size =w.heap.size+1:=(by simp_all);have fJ:Dv P w0.heap.size ρ cs lps css (w.alloc (.deferred (some []))) ([w.heap.size]++ma) mb:=by
       have hr1:=gr w (.deferred (some [])) ma hs.rest;have hnin:w.heap.size ∉ ma++mb:=fun hin=>by have:=(hs.rest.marks _ hin).2.1.1;omega
       refine ⟨hr1.cs,by rw [AM];exact List.nodup_cons.2 ⟨hnin,hr1.nodup⟩,fun r hx=> ?_,hr1.loops,hr1.inj⟩;simp only [List.cons_append,Bc,AH] at hx;rcases hx with rfl | hx
       .exact ⟨he.size,hs1,by show (w.heap.push _)[w.heap.size]? =_;simp⟩
       .exact hr1.marks r hx
      refine ⟨w.heap.size+1,[w.heap.size],_,w.heap.size,run_enterLoop_outer _ _ _ _ _,?_,by have:=he.size;omega,?_,eZ.grow _,(he.grow _).grow _,(fun e=>by cases e),gr _ _ _ fJ,fun j L l' hL e=> ?_,?_⟩
      .grind [World.alloc_heap_new]
      .grind [Sp.fresh]
      .have:=far w hs.rest j L l' hL e;omega
      .show _<=((w.heap.push _).push _).size
       grind
     | some l0=>
      obtain ⟨j0,rfl⟩: ∃j0,rnd=some j0:=by
       grind
      obtain ⟨hma,l1,hlp1,e2⟩:=eK;rw [hr] at e2;obtain rfl:=Ag e2;subst hma;have gA: ∃L0,D9 lps j0=some L0:=Option.isSome_iff_exists.1 hrk;obtain ⟨L0,hL0⟩:=gA;obtain ⟨l2,q1,q2,q3,tm,fn',d,q4,q5⟩:=hs.rest.loops j0 L0 hL0;rw [hlp1] at q1;obtain rfl:=Ag q1;refine ⟨w.heap.size,[],_,_,run_enterLoop_inner q4 _ _ _ _ _,World.alloc_heap_new _ _,he.size,Sp.fresh dU _,dU.grow _,he.grow _,(fun _=>rfl),gr _ _ _ hs.rest,fun j L l' hL e=> ?_,?_⟩
      .have:=far w hs.rest j L l' hL e;omega
      simp_all
    obtain ⟨l,mk,w1,d,hen,fZ,hlow,hsp,eZ,hev1,hmk,fJ,hne,hsz⟩:=lay;have hle:ρ.le (lpAdd ρ next l):=x5d eZ.lp_none;have hlpj:(lpAdd ρ next l).lp next=some l:=AG rfl
    have get: ∀i L,D9 (GO lps next (some L)) i=if i=next then some L else D9 lps i:=fun i L=>T.get_set none lps next (some L) i
    have hlps: ∀j L l',D9 lps j=some L->(lpAdd ρ next l).lp j=some l'->j≠next->ρ.lp j=some l':=fun j L l' _ e hj=>by
     have e:(if j=next then some l else ρ.lp j)=some l':=e
     grind
    have hrest2:Dv P w0.heap.size (lpAdd ρ next l) cs (GO lps next (some ⟨.ready,none,cx.n,env,params.toList,assign,body⟩)) css w1 (mk++ma) mb:=by
     refine ⟨fJ.cs.mono hle,fJ.nodup,fJ.marks,fun j L hL=> ?_,fun j j' L L' l' hL hL' e e'=> ?_⟩
     .rw [get] at hL;by_cases hj:j=next
      .subst hj;rw [AG rfl] at hL;obtain rfl:=Ag hL;exact ⟨l,hlpj,hlow,hsp,a.tmps,b.fn,d,by simp_all,dY.mono hle⟩
      .rw [Aw hj] at hL;obtain ⟨l2,q1,q2,q3,tm,fn',d',q4,q5⟩:=fJ.loops j L hL;exact ⟨l2,hle.2.2 _ _ q1,q2,q3,tm,fn',d',q4,q5.mono hle⟩
     .rw [get] at hL hL';by_cases hj:j=next <;> by_cases hj':j'=next
      .rw [hj,hj']
      .grind
      .grind
      .rw [Aw hj] at hL;rw [Aw hj'] at hL';exact fJ.inj j j' L L' l' hL hL' (hlps _ _ _ hL e hj) (hlps _ _ _ hL' e' hj')
    have hf:=(show Vz ρ (St.env ⟨env,mem,next,orc,ob⟩) cx.n a.tmps from dY).eval f;rw [hg] at hf;generalize hw':a.eval f=u at hf;cases hf with
    | fn _ _ cvs hl hh=>
     have dX:Vi (VRel (lpAdd ρ next l)) (B2.yld next::caps) (#[Value.func (.yield l) #[] #[]]++cvs).toList :=by rw [Array.toList_append];exact .cons (.yld _ _ hlpj) (Vi.of (by simp_all) fun i h1 h2=>by simpa using (hh i h1 (by grind)).mono hle)
     have eI:=To hN hfn (by rw [hb];rfl) (#[Value.func (.yield l) #[] #[]]++cvs) w1;have fA:=stepR_rangeFunc (P:=P) (b:=b) (a:=a) (k:=k') (cs:=css++cs0) (g:=f) (d:=⟨.fn (.func g) cvs, #[Value.func (.yield l) #[] #[]]⟩) (w₁':=w1) hen
      (by simp_all [resolve,Deferred.ofValue,Act.eval]) (by simp only [invoke];exact eI)
     have hfr:GL (lpAdd ρ next l) cx none (.inRangeFunc next::k0) rnd env b {a with defers:=mk.map OS++a.defers} (.inRangeFunc l::k') (mk++ma):=
      ⟨dY.mono hle,by grind,.cons (.inR _ _ hlpj) (htl.mono fun _ _=>FF.mono hle),trivial,by
       cases rnd with
       | none=>exact eK
       | some j=>
        obtain ⟨h0,l',h1,h2⟩:=eK;exact ⟨by grind,l',hle.2.2 _ _ h1,h2⟩⟩
     obtain ⟨_,_,_,_,_,b',a',k2,hent,hsr⟩:=x3d h hfr hs.lv hrest2 (show B7 _ mem (next+1) w1 from eZ.lpAdd l) dX;refine ⟨lpAdd ρ next l,b',a',k2,_,w1,_,_,.one ?_,hsr,?_,by cases css <;> rfl,hsz⟩
     .rw [show C'.ro=none by rw [hCe],<-hent];exact fA
     .rw [hCe];exact hev1.lpAdd eZ l
   .cases h
  .-- a round begins
   rename_i k0;split at h
   .rename_i j;split at h
    .rename_i pend n env params assign body hlg;obtain rfl:=Ag h;refine ⟨⟨hfl.cx,hfl.cs,hfl.le⟩,Wx.refl _ _,fun ho m0 n0 ρ0 w0 ρ b a k css w ma mb hs he cs0=> ?_⟩;obtain ⟨dY,hdf,htd,hro,eK⟩:=hs.top;obtain ⟨rfl,lr0,hlp0,hrb⟩:=eK;obtain ⟨k',rfl,htl⟩:=Dm.item rfl htd;obtain ⟨lr,hla⟩:=hs.rest.loops j _ hlg;have hla':=hla;obtain ⟨hlp,hlow,hsp,ltmps,lfn,ld,fZ,fK⟩:=hla;rw [hlp] at hlp0;obtain rfl:=Ag hlp0;have dW:=run_beginRound (P:=P) fZ rfl;have eU:=hs.rest.record (w':=w.putObj lr (.loop ⟨.busy,pend,lfn,ltmps,params.toArray,assign,body,ld⟩)) hlg hla' (L':=⟨.busy,pend,n,env,params,assign,body⟩)
      ⟨hlp,hlow,hsp.turned (Ve.put _ _ _),ltmps,lfn,ld,World.putObj_heap_same hsp.1,fK⟩ (Ve.put _ _ _)
     refine ⟨ρ,b,a,k',css,_,[],mb,.one (stepR_beginRound hrb dW),⟨⟨dY,hdf,htl,trivial,⟨rfl,lr,hlp,hrb⟩⟩,hs.lv,eU,hs.rel.turned (fun r hr=>by grind) (Ve.put _ _ _)⟩,he.turned (m:=[lr]) (fun r hr=>by grind) (Ve.put _ _ _),rfl,Nat.le_of_eq (Ve.put _ _ _).size.symm⟩
    .cases h
   .cases h
  .-- a loop's end
   rename_i j k0;split at h
   .cases h
   .rename_i Cn pend n env params assign body hnb hlg;obtain rfl:=Ag h;refine ⟨⟨hfl.cx,hfl.cs,hfl.le⟩,Wx.refl _ _,fun ho m0 n0 ρ0 w0 ρ b a k css w ma mb hs he cs0=> ?_⟩;obtain ⟨dY,hdf,htd,hro,eK⟩:=hs.top;obtain ⟨lr,hla⟩:=hs.rest.loops j _ hlg;have hla':=hla;obtain ⟨hlp,hlow,hsp,ltmps,lfn,ld,fZ,fK⟩:=hla;cases htd with
    | @cons _ y _ k' hx htl=>
     cases hx with
     | same _ hp=>cases hp
     | endR _ l hl =>
      rw [hlp] at hl;obtain rfl:=Ag hl;have hb:Cn≠ .busy :=fun e=>by grind
      have dW:=run_endLoop (P:=P) fZ hb;have eU:=hs.rest.record (w':=w.putObj lr (.loop ⟨.exhausted,pend,lfn,ltmps,params.toArray,assign,body,ld⟩)) hlg hla' (L':=⟨.exhausted,pend,n,env,params,assign,body⟩)
       ⟨hlp,hlow,hsp.turned (Ve.put _ _ _),ltmps,lfn,ld,World.putObj_heap_same hsp.1,fK⟩ (Ve.put _ _ _)
      refine ⟨ρ,b,a,_,css,_,ma,mb,.one (stepR_endRangeFunc dW),⟨⟨dY,hdf,?_,trivial,eK⟩,hs.lv,eU,hs.rel.turned (fun r hr=>by grind) (Ve.put _ _ _)⟩,he.turned (m:=[lr]) (fun r hr=>by grind) (Ve.put _ _ _),rfl,Nat.le_of_eq (Ve.put _ _ _).size.symm⟩;cases pend with
      | none=>exact htl
      | some c=>exact .cons (.same _ rfl) htl
   .cases h
  .cases h
theorem v7t {S:B4} {Rc:CC} {n:Nat} {C:CB}:Fo P S Rc (n+1) C=(bif HD C then some C else match TS P S Rc C with
  | some C'=>Fo P S Rc n C'
  | none=>none):=rfl
theorem y9h {C:CB} (h:HD C=true):C.ro=none/\C.rnd=none/\C.cs=[]/\(C.todo=[]\/ ∃t,C.todo=.code .ret ::t):=by
 unfold HD at h
 grind
theorem F8.trans {fl:Nat} {A B C:CB} (h:F8 P fl A B) (k:F8 P fl B C):F8 P fl A C:=by intro m0 n0 ρ0 w0 ρ b a t css w ma mb hs he cs0;obtain ⟨ρ1,b1,a1,t1,css1,w1,ma1,mb1,s1,r1,e1,q1,z1⟩:=h m0 n0 ρ0 w0 ρ b a t css w ma mb hs he cs0;obtain ⟨ρ2,b2,a2,t2,css2,w2,ma2,mb2,s2,r2,e2,q2,z2⟩:=k m0 n0 ρ0 w0 ρ1 b1 a1 t1 css1 w1 ma1 mb1 r1 e1 cs0;exact ⟨ρ2,b2,a2,t2,css2,w2,ma2,mb2,s1.trans s2,r2,e2,q2.trans q1,AF z1 z2⟩
theorem x4g {S:B4} {Rc:CC} (hN:Ex P) (hmx:P.follows .mixedOrders =true) (hS:Zv P S) (hCI:FG Rc) (hC:Gz P Rc) {fl:Nat}: ∀(n:Nat) (C C':CB),Fl fl C->Fo P S Rc n C=some C'->HD C'=true/\Wx fl C.st C'.st/\(C'.st.ob=true->F8 P fl C C')
 | 0,C,st',_,h=>by cases h
 | n+1,C,C',hfl,h=>by
  rw [v7t] at h;cases hf:HD C with
  | true=>rw [hf] at h;obtain rfl:=Ag h;exact ⟨hf,Wx.refl _ _,fun _=>F8.refl fl C⟩
  | false=>
   rw [hf,Aa] at h;split at h
   .rename_i C1 h1;have s1:=x6q hN hmx hS hCI hC hfl h1;obtain ⟨f1,f4,f5⟩:=x4g hN hmx hS hCI hC n C1 C' s1.fls h;exact ⟨f1,s1.inv.trans f4,fun ho=>(s1.leads (f4.ob ho)).trans (f5 ho)⟩
   .cases h
theorem Dm.refl_plain {ρ:B6}: ∀(k:List Item),k.all N6=true->Dm ρ k k
 | [],_=>.nil
 | x::k,h=>by simp only [List.all_cons,Ae] at h;exact .cons (.same x h.1) (Dm.refl_plain k h.2)
theorem x2e (base:Nat) (ρ:B6) (w:World):Dv P base ρ [] .leaf [] w [] []:=
 ⟨.nil,List.nodup_nil,(fun r hr=>by cases hr),(fun j L hL=>by cases hL),(fun j j' L L' l hL=>by cases hL)⟩
theorem v7u (hN:Ex P) (hmx:P.follows .mixedOrders =true) {S:B4} (hS:Zv P S) (n:Nat): ∀d,FG (Pi P S n d)/\Gz P (Pi P S n d)
 | 0=>⟨(fun cx todo st st' h=>by cases h),(fun cx todo st st' _ h=>by cases h)⟩
 | d+1=>by
  obtain ⟨hCI,hC⟩:=v7u hN hmx hS n d;have key: ∀{cx todo st st'},Pi P S n (d+1) cx todo st=some st'->todo.all N6=true/\Fl cx.floor ⟨cx,none,todo,none,[],st,[],.leaf⟩/\ ∃C',Fo P S (Pi P S n d) n ⟨cx,none,todo,none,[],st,[],.leaf⟩=some C'/\C'.cx.n=cx.n/\C'.st=st':=by
   intro cx todo st st' h;have h:(bif todo.all N6&&Nat.ble cx.floor st.next then match Fo P S (Pi P S n d) n ⟨cx,none,todo,none,[],st,[],.leaf⟩ with
    | some C=>bif Nat.beq C.cx.n cx.n then some C.st else none
    | none=>none
    else none)=some st':=h
   obtain ⟨hp,h⟩:=Yw h;simp only [Ae] at hp;refine ⟨hp.1,⟨rfl,fun af haf=>(by cases haf),Ak hp.2⟩,?_⟩;split at h
   .rename_i C' hr;obtain ⟨hn,h⟩:=Yw h;simp_all
   .cases h
  refine ⟨fun cx todo st st' h=> ?_,fun cx todo st st' hcx h ho ρ a w b cs hd dY dU=> ?_⟩
  .obtain ⟨_,hfl,C',hr,_,rfl⟩:=key h;exact (x4g hN hmx hS hCI hC n _ C' hfl hr).2.1
  .obtain ⟨hpl,hfl,C',hr,hn,rfl⟩:=key h;obtain ⟨f1,f2,f3⟩:=x4g hN hmx hS hCI hC n _ C' hfl hr;obtain ⟨e1,e2,e3,e4⟩:=y9h f1;obtain ⟨ρ',b',a',k',css',w',ma',mb',s1,r1,v1,q1,_⟩:=f3 ho st.mem st.next ρ w ρ {b with roundOf:=none} a todo [] w [] []
    ⟨⟨dY,hd,Dm.refl_plain todo hpl,trivial,rfl⟩,fun h=>absurd rfl h,x2e _ _ _,dU⟩ (Ev.refl _ _ _ _ _ dU.dom) cs
   have hcs:=r1.rest.cs;rw [e3] at hcs;cases hcs;obtain ⟨w2,s2,henv',eV,fU,_,_⟩:=y9l r1 e1 e2 e4 rfl v1 cs;refine ⟨ρ',{a' with defers:=[]},k',w2,?_,rfl,by grind,eV,fU⟩;have hb:b.at a todo=Frame.atR {b with roundOf:=none} a (Vd none todo):=rfl;have hb':Frame.atR b' {a' with defers:=[]} k'=b.at {a' with defers:=[]} k':=by
    have q:(b'.fn,b'.kind,b'.roundOf)=(b.fn,b.kind,none):=q1
    grind [Frame.atR,Frame.at]
   rw [hb,<-hb'];exact s1.trans s2
end
end Go.Am
end
