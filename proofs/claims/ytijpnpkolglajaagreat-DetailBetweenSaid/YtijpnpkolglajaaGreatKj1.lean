/- A part of a proof: several texts in one. -/
import Derived.Test.YtijpnpkolglajaaGreatKj0
import Derived.AtR
import Derived.RangeFuncRecord
import Derived.RangeFuncNested
set_option maxRecDepth 1000000
set_option maxHeartbeats 8000000
set_option linter.unusedVariables false
set_option linter.unusedSimpArgs false
noncomputable section
namespace Go.Am
section
variable {P:Program} {ρ:Rho}
structure Wp (floor:Nat) (st st':St):Prop where
 nxt:st.next≤st'.next
 bd:(∀b,st.next≤b→Xv st.mem b=none)→ ∀b,st'.next≤b→Xv st'.mem b=none
 low:floor≤st.next→ ∀b,b<floor→Xv st'.mem b=Xv st.mem b
 ob:st'.ob=true→st.ob=true
theorem Wp.refl (floor:Nat) (st:St):Wp floor st st:=⟨Nat.le_refl _,fun h=>h,fun _ _ _=>rfl,fun h=>h⟩
theorem Wp.trans {floor:Nat} {a b c:St} (h:Wp floor a b) (k:Wp floor b c):Wp floor a c:=
 ⟨Nat.le_trans h.nxt k.nxt,fun x=>k.bd (h.bd x),fun x d hd=>(k.low (Nat.le_trans x h.nxt) d hd).trans (h.low x d hd),fun x=>h.ob (k.ob x)⟩
theorem Wp.env {floor:Nat} {a b:St} (h:Wp floor a b) (e e':T AVal):Wp floor (a.withEnv e) (b.withEnv e'):=⟨h.nxt,h.bd,h.low,h.ob⟩
theorem Wp.write {floor:Nat} (st:St) {b:Nat} {ab:ABlk} (o:Option ABlk) (hf:floor≤b) (hm:Xv st.mem b=some ab):Wp floor st (st.withMem (We st.mem b o)) where
 nxt:=Nat.le_refl _
 bd h k hk:=by
  have hne:k≠b:=fun e=>by rw [e,] at hk;rw [h b hk] at hm;cases hm
  show Xv (We st.mem b o) k=none;rw [Zv _ _ hne];exact h k hk
 low _ k hk:=Zv _ _ (by omega)
 ob h:=h
theorem Wp.new {floor:Nat} (st:St) (cs:List AVal) (ty:TypeId):Wp floor st (y2q st cs ty) where
 nxt:=Nat.le_succ _
 bd h k hk:=by
  have hk':st.next+1≤k:=hk
  show Xv (We st.mem st.next _) k=none;rw [Zv _ _ (by omega)];exact h k (by omega)
 low hf k hk:=Zv _ _ (by omega)
 ob h:=h
def w2a (R:Runner):Prop:= ∀cx todo st st',R cx todo st=some st'→Wp cx.floor st st'
theorem Xs {cx:Ctx} {st st':St} {b:Bool} (h:st.owe cx b=some st'):st'.env=st.env∧st'.mem=st.mem∧st'.next=st.next∧(st'.ob=true→b=true∧st.ob=true):=by
 obtain ⟨env,mem,next,orc,ob⟩:=st;unfold St.owe at h;dsimp only at h;cases hs:cx.sym with
 | true=>rw [hs,cond_true] at h;obtain rfl:=Option.some.inj h;exact ⟨rfl,rfl,rfl,fun h=>by simp only [Bool.and_eq_true] at h;exact ⟨h.1,h.2⟩⟩
 | false=>
  rw [hs,cond_false] at h;cases b with
  | false=>cases h
  | true=>obtain rfl:=Option.some.inj h;exact ⟨rfl,rfl,rfl,fun h=>⟨rfl,h⟩⟩
theorem y2t {st st':St} {b e:Bool} (h:st.test b=(e,st')):st'.env=st.env∧st'.mem=st.mem∧st'.next=st.next∧(st'.ob=true→e=b∧st.ob=true):=by
 obtain ⟨env,mem,next,orc,ob⟩:=st;cases orc with
 | nil=>simp only [St.test,Prod.mk.injEq] at h;obtain ⟨rfl,rfl⟩:=h;exact ⟨rfl,rfl,rfl,fun h=>⟨rfl,h⟩⟩
 | cons c r=>simp only [St.test,Prod.mk.injEq] at h;obtain ⟨rfl,rfl⟩:=h;refine ⟨rfl,rfl,rfl,fun h=> ?_⟩;simp only [Bool.and_eq_true,beq_iff_eq] at h;exact ⟨h.1.symm,h.2⟩
theorem Kn {cx:Ctx} {st st':St} {dst:Option Tmp} {v:AVal} (h:st.put cx dst v=some st'):st'.mem=st.mem∧st'.next=st.next∧st'.ob=st.ob∧
  ((dst=none∧st'.env=st.env)∨ ∃d,dst=some d∧d<cx.n∧st'.env=T.set .undef st.env d v):=by
 obtain ⟨env,mem,next,orc,ob⟩:=st;cases dst with
 | none=>simp only [St.put,Option.some.injEq] at h;subst h;exact ⟨rfl,rfl,rfl,.inl ⟨rfl,rfl⟩⟩
 | some d=>
  simp only [St.put] at h;cases hb:Nat.ble (d+1) cx.n with
  | false=>rw [hb] at h;cases h
  | true=>rw [hb,cond_true] at h;obtain rfl:=Option.some.inj h;exact ⟨rfl,rfl,rfl,.inr ⟨d,rfl,Nat.le_of_ble_eq_true hb,rfl⟩⟩
theorem Wp.same {floor:Nat} {st st':St} (hm:st'.mem=st.mem) (hn:st'.next=st.next) (ho:st'.ob=true→st.ob=true):Wp floor st st':=
 ⟨by rw [hn];exact Nat.le_refl _,fun h b hb=>by rw [hm];exact h b (by rw [←hn];exact hb),fun _ b _=>by rw [hm],ho⟩
theorem Yk {α:Type} {c:Bool} {x:Option α} {y:α} (h:(bif c then x else none)=some y):c=true∧x=some y:=by
 cases c with
 | false=>cases h
 | true=>exact ⟨rfl,h⟩
theorem Jh {α:Type} {c:Bool} {x z:Option α} {y:α} (h:(bif c then x else z)=some y):(c=true∧x=some y)∨(c=false∧z=some y):=by
 cases c with
 | false=>exact .inr ⟨rfl,h⟩
 | true=>exact .inl ⟨rfl,h⟩
theorem w5g {floor:Nat} {st st':St} {t:TypeId} {x v:AVal} (h:y5g P floor st t x v=some st'):Wp floor st st'∧st'.env=st.env:=by
 unfold y5g at h;split at h
 ·obtain ⟨hc,h⟩:=Yk h;simp only [Bool.and_eq_true] at hc;split at h
  ·rename_i blk hm;obtain ⟨_,h⟩:=Yk h;obtain rfl:=Option.some.inj h;exact ⟨Wp.write st _ (Nat.le_of_ble_eq_true hc.1.1.1) hm,rfl⟩
  ·cases h
 ·cases h
theorem x9c {cx:Ctx} {st st':St} {t:TypeId} {x v:AVal} (h:z6j P cx st t x v=some st'):Wp cx.floor st st'∧st'.env=st.env:=by
 unfold z6j at h;split at h
 ·obtain ⟨hc,h⟩:=Yk h;simp only [Bool.and_eq_true] at hc;split at h
  ·rename_i blk hm;split at h
   ·split at h
    ·rename_i rw1 st1 fP;obtain ⟨s1,s2,s3,s4⟩:=z5u fP;obtain ⟨o1,o2,o3,o4⟩:=Xs h;have a1:Wp cx.floor st st1:=Wp.same s2 s3 fun x=>(s4 x).2;exact ⟨(a1.trans (Wp.write st1 _ (Nat.le_of_ble_eq_true hc.1.1.1.1) (by rw [s2];exact hm))).trans (Wp.same o2 o3 fun x=>(o4 x).2),o1.trans s1⟩
    ·cases h
   ·cases h
  ·cases h
 ·cases h
theorem y5p {st st':St} {t:TypeId} {len:Nat} {ps:List (Nat×AVal)} {v:AVal} {un:Bool} (floor:Nat) (h:Jp P un st t len ps=some (v,st')):Wp floor st st'∧st'.env=st.env:=by
 unfold Jp at h;split at h
 ·split at h
  ·obtain ⟨_,h⟩:=Yk h;split at h
   ·simp only [Option.some.injEq,Prod.mk.injEq] at h;obtain ⟨_,rfl⟩:=h;exact ⟨Wp.new st _ _,rfl⟩
   ·cases h
  ·cases h
 ·cases h
theorem z5q {st st':St} {t:TypeId} {x y v:AVal} (floor:Nat) (h:Uw P st t x y=some (v,st')):Wp floor st st'∧st'.env=st.env:=by
 unfold Uw at h;split at h
 ·split at h
  ·obtain ⟨_,h⟩:=Yk h;simp only [Option.some.injEq,Prod.mk.injEq] at h;obtain ⟨_,rfl⟩:=h;exact ⟨Wp.new st _ _,rfl⟩
  ·cases h
 ·cases h
theorem x9j {floor:Nat} {st st':St} {ts:List TypeId} {xs:List AVal} {v:AVal} (h:z0c P floor st ts xs=some (v,st')):Wp floor st st'∧st'.env=st.env:=by
 unfold z0c at h;split at h
 ·split at h
  ·split at h
   ·split at h
    ·obtain ⟨_,h⟩:=Yk h;split at h
     ·rcases Jh h with ⟨_,h⟩ | ⟨_,h⟩
      ·simp only [Option.some.injEq,Prod.mk.injEq] at h;obtain ⟨_,rfl⟩:=h;exact ⟨Wp.refl _ _,rfl⟩
      ·obtain ⟨_,h⟩:=Yk h;simp only [Option.some.injEq,Prod.mk.injEq] at h;obtain ⟨_,rfl⟩:=h;exact ⟨Wp.new st _ _,rfl⟩
     ·split at h
      ·rename_i blk hm;split at h
       ·obtain ⟨_,h⟩:=Yk h;split at h
        ·rcases Jh h with ⟨_,h⟩ | ⟨_,h⟩
         ·obtain ⟨hc,h⟩:=Yk h;simp only [Bool.and_eq_true] at hc;simp only [Option.some.injEq,Prod.mk.injEq] at h;obtain ⟨_,rfl⟩:=h;exact ⟨Wp.write st _ (Nat.le_of_ble_eq_true hc.1) hm,rfl⟩
         ·simp only [Option.some.injEq,Prod.mk.injEq] at h;obtain ⟨_,rfl⟩:=h;exact ⟨Wp.new st _ _,rfl⟩
        ·obtain ⟨hc,h⟩:=Yk h;simp only [Bool.and_eq_true] at hc;have hf:=Nat.le_of_ble_eq_true hc.2;rcases Jh h with ⟨_,h⟩ | ⟨_,h⟩
         ·simp only [Option.some.injEq,Prod.mk.injEq] at h;obtain ⟨_,rfl⟩:=h;exact ⟨Wp.write st _ hf hm,rfl⟩
         ·obtain ⟨_,h⟩:=Yk h;simp only [Option.some.injEq,Prod.mk.injEq] at h;obtain ⟨_,rfl⟩:=h;exact ⟨(Wp.write st none hf hm).trans (Wp.new _ _ _),rfl⟩
       ·cases h
      ·cases h
     ·cases h
    ·cases h
   ·cases h
  ·cases h
 ·cases h
theorem Wp.put {floor:Nat} (st:St) (cs:Option ABlk) {st':St} (hm:st'.mem=We st.mem st.next cs) (hn:st'.next=st.next+1) (ho:st'.ob=true→st.ob=true):Wp floor st st' where
 nxt:=by rw [hn];exact Nat.le_succ _
 bd h k hk:=by rw [hn] at hk;rw [hm,Zv _ _ (by omega)];exact h k (by omega)
 low hf k hk:=by rw [hm];exact Zv _ _ (by omega)
 ob:=ho
theorem y5i {cx:Ctx} {st st':St} {t:TypeId} {x y v:AVal} (h:Jq P cx st t x y=some (v,st')):Wp cx.floor st st'∧st'.env=st.env:=by
 unfold Jq at h;split at h
 ·split at h
  ·obtain ⟨_,h⟩:=Yk h;simp only [Option.map_eq_some_iff,Prod.mk.injEq] at h;obtain ⟨_,h1,_,rfl⟩:=h;obtain ⟨o1,o2,o3,o4⟩:=Xs h1;exact ⟨Wp.put st _ o2 (o3.trans rfl) fun x=>(o4 x).2,o1⟩
  ·cases h
 ·cases h
theorem x4p {cx:Ctx} {st st':St} {ts:List TypeId} {xs:List AVal} {v:AVal} (h:z2r P cx st ts xs=some (v,st')):Wp cx.floor st st'∧st'.env=st.env:=by
 unfold z2r at h;split at h
 ·split at h
  ·split at h
   ·cases h
   ·split at h
    ·split at h
     ·rename_i hm;split at h
      ·obtain ⟨hc,h⟩:=Yk h;simp only [Bool.and_eq_true] at hc;simp only [Option.map_eq_some_iff,Prod.mk.injEq] at h;obtain ⟨_,h1,_,rfl⟩:=h;obtain ⟨o1,o2,o3,o4⟩:=Xs h1;exact ⟨(Wp.write st none (Nat.le_of_ble_eq_true hc.1.2) hm).trans (Wp.put (st.withMem _) _ o2 (o3.trans rfl) fun x=>(o4 x).2),o1⟩
      ·cases h
     ·cases h
    ·cases h
  ·cases h
 ·cases h
theorem v6v {floor:Nat} {st:St} {sz len:Nat} {x:AVal} {b:Option Nat} {get:Nat→List AVal} {o:Bool} (ht:z4i st.mem sz x=some (b,len,get,o)) (hf:v1c floor b=true):Wp floor st (st.withMem (x7g st.mem b)):=by
 cases b with
 | none=>exact Wp.refl _ _
 | some b=>
  have hm: ∃ab,Xv st.mem b=some ab:=by
   unfold z4i at ht;split at ht
   ·simp at ht
   ·split at ht
    ·rename_i blk hm;split at ht
     ·obtain ⟨_,ht⟩:=Yk ht;simp only [Option.some.injEq,Prod.mk.injEq] at ht;obtain ⟨rfl,_⟩:=ht;exact ⟨_,hm⟩
     ·cases ht
    ·cases ht
   ·split at ht
    ·rename_i blk hm;split at ht
     ·obtain ⟨_,ht⟩:=Yk ht;simp only [Option.some.injEq,Prod.mk.injEq] at ht;obtain ⟨rfl,_⟩:=ht;exact ⟨_,hm⟩
     ·cases ht
    ·cases ht
   ·cases ht
  obtain ⟨ab,hm⟩:=hm;exact Wp.write st none (Nat.le_of_ble_eq_true hf) hm
theorem x4o {cx:Ctx} {st st':St} {ts:List TypeId} {xs:List AVal} {v:AVal} (h:z2q P cx st ts xs=some (v,st')):Wp cx.floor st st'∧st'.env=st.env:=by
 unfold z2q at h;split at h
 ·split at h
  ·split at h
   ·split at h
    ·rename_i ht _;obtain ⟨hc,h⟩:=Yk h;simp only [Bool.and_eq_true] at hc;simp only [Option.map_eq_some_iff,Prod.mk.injEq] at h;obtain ⟨_,h1,_,rfl⟩:=h;obtain ⟨o1,o2,o3,o4⟩:=Xs h1;exact ⟨(v6v ht hc.2).trans (Wp.put (st.withMem _) _ o2 (o3.trans rfl) fun x=>(o4 x).2),o1⟩
    ·cases h
   ·cases h
  ·cases h
 ·cases h
theorem x4q {cx:Ctx} {st st':St} {ts:List TypeId} {xs:List AVal} {v:AVal} (h:z5h P cx st ts xs=some (v,st')):Wp cx.floor st st'∧st'.env=st.env:=by
 unfold z5h at h;rcases Jh h with ⟨_,h⟩ | ⟨_,h⟩
 ·exact x4o h
 ·split at h
  ·exact x4p h
  ·exact x9j h
theorem v2t {floor:Nat} {st st':St} {ts:List TypeId} {xs:List AVal} {v:AVal} (h:x9h P floor st ts xs=some (v,st')):Wp floor st st'∧st'.env=st.env:=by
 unfold x9h at h;split at h
 ·split at h
  ·split at h
   ·split at h
    ·obtain ⟨_,h⟩:=Yk h;split at h
     ·simp only [Option.some.injEq,Prod.mk.injEq] at h;obtain ⟨_,rfl⟩:=h;exact ⟨Wp.refl _ _,rfl⟩
     ·obtain ⟨_,h⟩:=Yk h;simp only [Option.some.injEq,Prod.mk.injEq] at h;obtain ⟨_,rfl⟩:=h;exact ⟨Wp.refl _ _,rfl⟩
     ·dsimp only at h;split at h
      ·rename_i blk hm;obtain ⟨hc,h⟩:=Yk h;simp only [Bool.and_eq_true] at hc;simp only [Option.some.injEq,Prod.mk.injEq] at h;obtain ⟨_,rfl⟩:=h;exact ⟨Wp.write st _ (Nat.le_of_ble_eq_true hc.1) hm,rfl⟩
      ·cases h
     ·cases h
    ·cases h
   ·cases h
  ·cases h
 ·cases h
theorem w5k {floor:Nat} {st st':St} {ts:List TypeId} {xs:List AVal} {v:AVal} (h:y5n P floor st ts xs=some (v,st')):Wp floor st st'∧st'.env=st.env:=by
 unfold y5n at h;split at h
 ·split at h
  ·split at h
   ·split at h
    ·simp only [Option.some.injEq,Prod.mk.injEq] at h;obtain ⟨_,rfl⟩:=h;exact ⟨Wp.refl _ _,rfl⟩
    ·rcases Jh h with ⟨_,h⟩ | ⟨_,h⟩
     ·simp only [Option.some.injEq,Prod.mk.injEq] at h;obtain ⟨_,rfl⟩:=h;exact ⟨Wp.refl _ _,rfl⟩
     ·obtain ⟨hc,h⟩:=Yk h;simp only [Bool.and_eq_true] at hc;split at h
      ·rename_i blk hm;obtain ⟨_,h⟩:=Yk h;simp only [Option.some.injEq,Prod.mk.injEq] at h;obtain ⟨_,rfl⟩:=h;exact ⟨Wp.write st _ (Nat.le_of_ble_eq_true hc.2) hm,rfl⟩
      ·cases h
    ·cases h
   ·cases h
  ·cases h
 ·cases h
theorem z8i {S:Specs} {R:Runner} (hR:w2a R) {lift:Bool} {f:FuncId} {args:List AVal} {cx:Ctx} {st st':St} {v:AVal} (h:w5l P S R lift f args cx st=some (v,st')):
  (Wp cx.floor st st'∧(lift=true→ ∀b,b<st.next→Xv st'.mem b=Xv st.mem b))∧st'.env=st.env:=by
 unfold w5l at h;split at h
 ·rcases Jh h with ⟨_,h⟩ | ⟨_,h⟩
  ·split at h
   ·obtain ⟨_,h⟩:=Yk h;simp only [Option.map_eq_some_iff,Prod.mk.injEq] at h;obtain ⟨st1,h1,_,rfl⟩:=h;obtain ⟨e1,e2,e3,e4⟩:=Xs h1;exact ⟨⟨Wp.same e2 e3 fun x=>(e4 x).2,fun _ b _=>by rw [e2]⟩,e1⟩
   ·cases h
  ·split at h;split at h
   ·obtain ⟨_,h⟩:=Yk h;simp only [Option.map_eq_some_iff,Prod.mk.injEq] at h;obtain ⟨st1,h1,_,rfl⟩:=h;obtain ⟨e1,e2,e3,e4⟩:=Xs h1;exact ⟨⟨Wp.same e2 e3 fun x=>(e4 x).2,fun _ b _=>by rw [e2]⟩,e1⟩
   ·cases h
 ·split at h
  ·rename_i v0 b blk o _;split at h
   ·rename_i ab hm;obtain ⟨hc,h⟩:=Yk h;simp only [Bool.and_eq_true,Bool.not_eq_true'] at hc;simp only [Option.map_eq_some_iff,Prod.mk.injEq] at h;obtain ⟨st1,h1,_,rfl⟩:=h;obtain ⟨e1,e2,e3,e4⟩:=Xs h1;exact ⟨⟨(Wp.write st (some blk) (Nat.le_of_ble_eq_true hc.2) hm).trans (Wp.same e2 e3 fun x=>(e4 x).2),fun hl=>by rw [hl] at hc;cases hc.1⟩,e1⟩
   ·cases h
  ·cases h
 ·split at h
  ·split at h
   ·split at h
    ·rename_i st2 hr;split at h
     ·simp only [Option.some.injEq,Prod.mk.injEq] at h;obtain ⟨_,rfl⟩:=h;have q:=hR _ _ _ _ hr;refine ⟨?_,rfl⟩;cases lift with
      | false=>exact ⟨⟨q.nxt,q.bd,q.low,q.ob⟩,fun x=>by cases x⟩
      | true=>refine ⟨⟨q.nxt,q.bd,fun hf b hb=>q.low (Nat.le_refl _) b (Nat.lt_of_lt_of_le hb hf),q.ob⟩,fun _ b hb=>q.low (Nat.le_refl _) b hb⟩
     ·cases h
    ·cases h
   ·cases h
  ·cases h
theorem y9d {cx:Ctx} {st st':St} {ts:List TypeId} {b sz off len:Nat} {x v:AVal} (h:y0o P cx st ts b sz off len x=some (v,st')):Wp cx.floor st st'∧st'.env=st.env:=by
 unfold y0o at h;split at h
 ·split at h
  ·split at h
   ·rename_i hm;split at h
    ·obtain ⟨hc,h⟩:=Yk h;simp only [Bool.and_eq_true] at hc;simp only [Option.map_eq_some_iff,Prod.mk.injEq] at h;obtain ⟨_,h1,_,rfl⟩:=h;obtain ⟨o1,o2,o3,o4⟩:=Xs h1;exact ⟨(Wp.write st _ (Nat.le_of_ble_eq_true hc.1) hm).trans (Wp.same o2 o3 fun x=>(o4 x).2),o1⟩
    ·cases h
   ·cases h
  ·cases h
 ·cases h
theorem w5i {cx:Ctx} {st st':St} {ts:List TypeId} {xs:List AVal} {v:AVal} (h:y9e P cx st ts xs=some (v,st')):Wp cx.floor st st'∧st'.env=st.env:=by
 unfold y9e at h;split at h
 ·exact y9d h
 ·exact y9d h
 ·exact v2t h
theorem y5l {S:Specs} {R:Runner} (hR:w2a R) {lift:Bool} {op:Op} {cx:Ctx} {st st':St} {v:AVal} (h:Wb P S R lift op cx st=some (v,st')):Wp cx.floor st st'∧st'.env=st.env:=by
 unfold Wb at h;split at h
 ·split at h
  ·rename_i hl;obtain ⟨l1,l2,l3,l4⟩:=z2n hl;simp only [Option.map_eq_some_iff,Prod.mk.injEq] at h;obtain ⟨_,h1,_,rfl⟩:=h;obtain ⟨e1,e2,e3,e4⟩:=Xs h1;exact ⟨Wp.same (e2.trans l2) (e3.trans l3) fun x=>(l4 (e4 x).2).2,e1.trans l1⟩
  ·cases h
 ·simp only [Option.map_eq_some_iff,Prod.mk.injEq] at h;obtain ⟨_,_,_,rfl⟩:=h;exact ⟨Wp.new st _ _,rfl⟩
 ·obtain ⟨_,h⟩:=Yk h;simp only [Option.some.injEq,Prod.mk.injEq] at h;obtain ⟨_,rfl⟩:=h;exact ⟨Wp.new st _ _,rfl⟩
 ·exact y5p _ h
 ·split at h
  ·simp only [Option.map_eq_some_iff,Prod.mk.injEq] at h;obtain ⟨_,h,_,rfl⟩:=h;exact x9c h
  ·simp only [Option.map_eq_some_iff,Prod.mk.injEq] at h;obtain ⟨_,h,_,rfl⟩:=h;exact w5g h
 ·rcases Jh h with ⟨_,h⟩ | ⟨_,h⟩
  ·rcases Jh h with ⟨_,h⟩ | ⟨_,h⟩
   ·have q:=z5q (st:=st.dropO) cx.floor h;exact ⟨⟨q.1.nxt,q.1.bd,q.1.low,q.1.ob⟩,q.2⟩
   ·have q:=y5i (st:=st.dropO) h;exact ⟨⟨q.1.nxt,q.1.bd,q.1.low,q.1.ob⟩,q.2⟩
  ·exact z5q _ h
 ·exact x4q h
 ·exact w5i h
 ·exact w5k h
 ·split at h
  ·obtain ⟨⟨h1,_⟩,h2⟩:=z8i hR h;exact ⟨h1,h2⟩
  ·obtain ⟨⟨h1,_⟩,h2⟩:=z8i hR h;exact ⟨h1,h2⟩
  ·cases h
 ·cases h
def y9f (x:Nat) (st st':St):Prop:=Xv st'.mem x=Xv st.mem x
theorem Jg {x b:Nat} (st:St) (o:Option ABlk) (hn:b≠x):y9f x st (st.withMem (We st.mem b o)):=Zv _ _ fun e=>hn e.symm
theorem z4l {x:Nat} (st:St) (cs:List AVal) (ty:TypeId) (hx:x<st.next):y9f x st (y2q st cs ty):=Zv _ _ (Nat.ne_of_lt hx)
theorem x9b {x:Nat} {floor:Nat} {st st':St} {t:TypeId} {a v:AVal} (h:y5g P floor st t a v=some st') (hn: ∀off,a≠ .ptr x off):y9f x st st':=by
 unfold y5g at h;split at h
 ·rename_i b off _ _;obtain ⟨_,h⟩:=Yk h;split at h
  ·obtain ⟨_,h⟩:=Yk h;obtain rfl:=Option.some.inj h;exact Jg st _ fun e=>hn off (by rw [e])
  ·cases h
 ·cases h
theorem x4g {x:Nat} {cx:Ctx} {st st':St} {t:TypeId} {a v:AVal} (h:z6j P cx st t a v=some st') (hn: ∀sz r fo,a≠ .epa x sz r fo):y9f x st st':=by
 unfold z6j at h;split at h
 ·rename_i b sz r fo _ _;obtain ⟨_,h⟩:=Yk h;split at h
  ·split at h
   ·split at h
    ·rename_i rw1 st1 fP;obtain ⟨_,s2,_,_⟩:=z5u fP;obtain ⟨_,o2,_,_⟩:=Xs h;unfold y9f;rw [o2,←s2];exact Jg st1 _ fun e=>hn sz r fo (by rw [e])
    ·cases h
   ·cases h
  ·cases h
 ·cases h
theorem y0z {x:Nat} {st st':St} {t:TypeId} {len:Nat} {ps:List (Nat×AVal)} {v:AVal} {un:Bool} (hx:x<st.next) (h:Jp P un st t len ps=some (v,st')):y9f x st st':=by
 unfold Jp at h;split at h
 ·split at h
  ·obtain ⟨_,h⟩:=Yk h;split at h
   ·simp only [Option.some.injEq,Prod.mk.injEq] at h;obtain ⟨_,rfl⟩:=h;exact z4l st _ _ hx
   ·cases h
  ·cases h
 ·cases h
theorem z4g {x:Nat} {st st':St} {t:TypeId} {l c v:AVal} (hx:x<st.next) (h:Uw P st t l c=some (v,st')):y9f x st st':=by
 unfold Uw at h;split at h
 ·split at h
  ·obtain ⟨_,h⟩:=Yk h;simp only [Option.some.injEq,Prod.mk.injEq] at h;obtain ⟨_,rfl⟩:=h;exact z4l st _ _ hx
  ·cases h
 ·cases h
theorem x4n {x floor:Nat} {st st':St} {ts:List TypeId} {xs:List AVal} {v:AVal} (hx:x<st.next) (h:z0c P floor st ts xs=some (v,st')) (hn: ∀off len cap r,xs≠ .sl x off len cap::r):y9f x st st':=by
 unfold z0c at h;split at h
 ·split at h
  ·split at h
   ·split at h
    ·obtain ⟨_,h⟩:=Yk h;split at h
     ·rcases Jh h with ⟨_,h⟩ | ⟨_,h⟩
      ·simp only [Option.some.injEq,Prod.mk.injEq] at h;obtain ⟨_,rfl⟩:=h;rfl
      ·obtain ⟨_,h⟩:=Yk h;simp only [Option.some.injEq,Prod.mk.injEq] at h;obtain ⟨_,rfl⟩:=h;exact z4l st _ _ hx
     ·have hb:=fun e=>hn _ _ _ _ (congrArg (fun b=>AVal.sl b _ _ _::_) e);split at h
      ·rename_i blk hm;split at h
       ·obtain ⟨_,h⟩:=Yk h;split at h
        ·rcases Jh h with ⟨_,h⟩ | ⟨_,h⟩
         ·obtain ⟨hc,h⟩:=Yk h;simp only [Option.some.injEq,Prod.mk.injEq] at h;obtain ⟨_,rfl⟩:=h;exact Jg st _ hb
         ·simp only [Option.some.injEq,Prod.mk.injEq] at h;obtain ⟨_,rfl⟩:=h;exact z4l st _ _ hx
        ·obtain ⟨hc,h⟩:=Yk h;rcases Jh h with ⟨_,h⟩ | ⟨_,h⟩
         ·simp only [Option.some.injEq,Prod.mk.injEq] at h;obtain ⟨_,rfl⟩:=h;exact Jg st _ hb
         ·obtain ⟨_,h⟩:=Yk h;simp only [Option.some.injEq,Prod.mk.injEq] at h;obtain ⟨_,rfl⟩:=h;exact (z4l (st.withMem (We st.mem _ none)) _ _ hx).trans (Jg st none hb)
       ·cases h
      ·cases h
     ·cases h
    ·cases h
   ·cases h
  ·cases h
 ·cases h
theorem y0w {x:Nat} {cx:Ctx} {st st':St} {t:TypeId} {l c v:AVal} (hx:x<st.next) (h:Jq P cx st t l c=some (v,st')):y9f x st st':=by
 unfold Jq at h;split at h
 ·split at h
  ·obtain ⟨_,h⟩:=Yk h;simp only [Option.map_eq_some_iff,Prod.mk.injEq] at h;obtain ⟨_,h1,_,rfl⟩:=h;obtain ⟨_,o2,_,_⟩:=Xs h1;unfold y9f;rw [o2];exact Zv _ _ (Nat.ne_of_lt hx)
  ·cases h
 ·cases h
theorem x1n {x:Nat} {cx:Ctx} {st st':St} {ts:List TypeId} {xs:List AVal} {v:AVal} (hx:x<st.next) (h:z2r P cx st ts xs=some (v,st')) (hn: ∀sz off len cap r,xs≠ .sla x sz off len cap::r):y9f x st st':=by
 unfold z2r at h;split at h
 ·have hb:=fun e=>hn _ _ _ _ _ (congrArg (fun b=>AVal.sla b _ _ _ _::_) e);split at h
  ·split at h
   ·cases h
   ·split at h
    ·split at h
     ·split at h
      ·obtain ⟨hc,h⟩:=Yk h;simp only [Option.map_eq_some_iff,Prod.mk.injEq] at h;obtain ⟨_,h1,_,rfl⟩:=h;obtain ⟨_,o2,_,_⟩:=Xs h1;unfold y9f;rw [o2];show Xv (We (We st.mem _ none) st.next _) x=_;rw [Zv _ _ (Nat.ne_of_lt hx)];exact Zv _ _ fun e=>hb e.symm
      ·cases h
     ·cases h
    ·cases h
  ·cases h
 ·cases h
theorem y5x {m:Mem} {sz len b:Nat} {x:AVal} {get:Nat→List AVal} {o:Bool} (ht:z4i m sz x=some (some b,len,get,o)):(∃off len cap,x=.sl b off len cap)∨ ∃sz off len cap,x=.sla b sz off len cap:=by
 unfold z4i at ht;split at ht
 ·simp at ht
 ·split at ht
  ·split at ht
   ·obtain ⟨_,ht⟩:=Yk ht;simp only [Option.some.injEq,Prod.mk.injEq] at ht;obtain ⟨rfl,_⟩:=ht;exact .inl ⟨_,_,_,rfl⟩
   ·cases ht
  ·cases ht
 ·split at ht
  ·split at ht
   ·obtain ⟨_,ht⟩:=Yk ht;simp only [Option.some.injEq,Prod.mk.injEq] at ht;obtain ⟨rfl,_⟩:=ht;exact .inr ⟨_,_,_,_,rfl⟩
   ·cases ht
  ·cases ht
 ·cases ht
theorem x1m {x:Nat} {cx:Ctx} {st st':St} {ts:List TypeId} {xs:List AVal} {v:AVal} (hx:x<st.next) (h:z2q P cx st ts xs=some (v,st')) (hn: ∀off len cap r,xs≠ .sl x off len cap::r) (hn2: ∀sz off len cap r,xs≠ .sla x sz off len cap::r):y9f x st st':=by
 unfold z2q at h;split at h
 ·split at h
  ·split at h
   ·split at h
    ·rename_i b len get o1 n g o2 ht _;obtain ⟨hc,h⟩:=Yk h;simp only [Option.map_eq_some_iff,Prod.mk.injEq] at h;obtain ⟨_,h1,_,rfl⟩:=h;obtain ⟨_,o2,_,_⟩:=Xs h1;unfold y9f;rw [o2];show Xv (We (x7g st.mem b) st.next _) x=_;rw [Zv _ _ (Nat.ne_of_lt hx)];cases b with
     | none=>rfl
     | some b=>
      refine Zv _ _ fun e=> ?_;subst e;rcases y5x ht with ⟨_,_,_,rfl⟩ | ⟨_,_,_,_,rfl⟩
      ·exact hn _ _ _ _ rfl
      ·exact hn2 _ _ _ _ _ rfl
    ·cases h
   ·cases h
  ·cases h
 ·cases h
theorem x1o {x:Nat} {cx:Ctx} {st st':St} {ts:List TypeId} {xs:List AVal} {v:AVal} (hx:x<st.next) (h:z5h P cx st ts xs=some (v,st')) (hn: ∀off len cap r,xs≠ .sl x off len cap::r) (hn2: ∀sz off len cap r,xs≠ .sla x sz off len cap::r):y9f x st st':=by
 unfold z5h at h;rcases Jh h with ⟨_,h⟩ | ⟨_,h⟩
 ·exact x1m hx h hn hn2
 ·split at h
  ·exact x1n hx h hn2
  ·exact x4n hx h hn
theorem w5h {x floor:Nat} {st st':St} {ts:List TypeId} {xs:List AVal} {v:AVal} (h:x9h P floor st ts xs=some (v,st')) (hn: ∀off len cap r,xs≠ .sl x off len cap::r):y9f x st st':=by
 unfold x9h at h;split at h
 ·split at h
  ·split at h
   ·split at h
    ·obtain ⟨_,h⟩:=Yk h;split at h
     ·simp only [Option.some.injEq,Prod.mk.injEq] at h;obtain ⟨_,rfl⟩:=h;rfl
     ·obtain ⟨_,h⟩:=Yk h;simp only [Option.some.injEq,Prod.mk.injEq] at h;obtain ⟨_,rfl⟩:=h;rfl
     ·have hb:=fun e=>hn _ _ _ _ (congrArg (fun b=>AVal.sl b _ _ _::_) e);dsimp only at h;split at h
      ·obtain ⟨hc,h⟩:=Yk h;simp only [Option.some.injEq,Prod.mk.injEq] at h;obtain ⟨_,rfl⟩:=h;exact Jg st _ hb
      ·cases h
     ·cases h
    ·cases h
   ·cases h
  ·cases h
 ·cases h
theorem y5m {x:Nat} {cx:Ctx} {st st':St} {ts:List TypeId} {b sz off len:Nat} {y v:AVal} (h:y0o P cx st ts b sz off len y=some (v,st')) (hn:b≠x):y9f x st st':=by
 unfold y0o at h;split at h
 ·split at h
  ·split at h
   ·split at h
    ·obtain ⟨_,h⟩:=Yk h;simp only [Option.map_eq_some_iff,Prod.mk.injEq] at h;obtain ⟨_,h1,_,rfl⟩:=h;obtain ⟨_,o2,_,_⟩:=Xs h1;show Xv _ x=_;rw [o2];exact Jg st _ hn
    ·cases h
   ·cases h
  ·cases h
 ·cases h
theorem x9g {x:Nat} {cx:Ctx} {st st':St} {ts:List TypeId} {xs:List AVal} {v:AVal} (h:y9e P cx st ts xs=some (v,st')) (hn: ∀off len cap r,xs≠ .sl x off len cap::r) (hn2: ∀sz off len cap r,xs≠ .sla x sz off len cap::r) (hn3: ∀sz off len r,xs≠ .slv x sz off len::r):y9f x st st':=by
 unfold y9e at h;split at h
 ·exact y5m h fun e=>hn2 _ _ _ _ _ (by rw [e])
 ·exact y5m h fun e=>hn3 _ _ _ _ (by rw [e])
 ·exact w5h h hn
theorem x9i {x floor:Nat} {st st':St} {ts:List TypeId} {xs:List AVal} {v:AVal} (h:y5n P floor st ts xs=some (v,st')) (hn: ∀off len cap r,xs≠ .sl x off len cap::r):y9f x st st':=by
 unfold y5n at h;split at h
 ·split at h
  ·split at h
   ·split at h
    ·simp only [Option.some.injEq,Prod.mk.injEq] at h;obtain ⟨_,rfl⟩:=h;rfl
    ·have hb:=fun e=>hn _ _ _ _ (congrArg (fun b=>AVal.sl b _ _ _::_) e);rcases Jh h with ⟨_,h⟩ | ⟨_,h⟩
     ·simp only [Option.some.injEq,Prod.mk.injEq] at h;obtain ⟨_,rfl⟩:=h;rfl
     ·obtain ⟨hc,h⟩:=Yk h;split at h
      ·obtain ⟨_,h⟩:=Yk h;simp only [Option.some.injEq,Prod.mk.injEq] at h;obtain ⟨_,rfl⟩:=h;exact Jg st _ hb
      ·cases h
    ·cases h
   ·cases h
  ·cases h
 ·cases h
theorem x4k {S:Specs} {R:Runner} {lift:Bool} {op:Op} {cx:Ctx} {st st':St} {v:AVal} {x:Nat} (hk:Yg op=.chain) (hx:x<st.next) (hn:x1v op st.eval≠some x) (h:Wb P S R lift op cx st=some (v,st')):y9f x st st':=by
 cases op with
 | store t a y=>
  simp only [Wb] at h;split at h
  ·rename_i b sz r fo hb;simp only [Option.map_eq_some_iff,Prod.mk.injEq] at h;obtain ⟨_,h,_,rfl⟩:=h;exact x4g h fun sz r fo e=>hn (by simp only [x1v,hb];cases e;rfl)
  ·simp only [Option.map_eq_some_iff,Prod.mk.injEq] at h;obtain ⟨_,h,_,rfl⟩:=h;exact x9b h fun off e=>hn (by simp only [x1v,e])
 | box t y=>unfold Wb at h;simp only at h;obtain ⟨_,h⟩:=Yk h;simp only [Option.some.injEq,Prod.mk.injEq] at h;obtain ⟨_,rfl⟩:=h;exact z4l st _ _ hx
 | buildSlice t n ps=>exact y0z hx h
 | makeSlice t l c=>
  unfold Wb at h;simp only at h;rcases Jh h with ⟨_,h⟩ | ⟨_,h⟩
  ·rcases Jh h with ⟨_,h⟩ | ⟨_,h⟩
   ·exact (z4g (st:=st.dropO) hx h)
   ·exact (y0w (st:=st.dropO) hx h)
  ·exact z4g hx h
 | call c=>
  obtain ⟨callee,args,argTypes⟩:=c;cases callee with
  | builtin b=>
   cases b <;> first
    | (simp [Yg] at hk;done)
    | exact x1o hx h (fun off len cap r e=>hn (by simp only [x1v,e])) (fun sz off len cap r e=>hn (by simp only [x1v,e]))
    | exact x9g h (fun off len cap r e=>hn (by simp only [x1v,e])) (fun sz off len cap r e=>hn (by simp only [x1v,e])) (fun sz off len r e=>hn (by simp only [x1v,e]))
    | exact x9i h fun off len cap r e=>hn (by simp only [x1v,e])
  | value f=>simp [Yg] at hk
  | invoke r m=>simp [Yg] at hk
 | _=>simp [Yg] at hk
theorem Qm : ∀(d:Nat) (a:AVal) (u:Value),pf d a=true→Ym ρ a u→Ym ρ.bare a u
 | 0,_,_,h,_=>by simp [pf] at h
 | d+1,a,u,h,hr=>by
  cases hr with
  | undef=>simp [pf] at h
  | bool=>exact .bool _
  | int=>exact .int _ _
  | str=>exact .str _
  | agg cs vs hl hh=>simp only [pf,List.all_eq_true] at h;exact .agg cs vs hl fun i h1 h2=>Qm d _ _ (h _ (List.getElem_mem h1)) (hh i h1 h2)
  | tup cs vs hl hh=>simp only [pf,List.all_eq_true] at h;exact .tup cs vs hl fun i h1 h2=>Qm d _ _ (h _ (List.getElem_mem h1)) (hh i h1 h2)
  | ptr=>simp [pf] at h
  | nilp=>exact .nilp
  | sl=>simp [pf] at h
  | sla=>simp [pf] at h
  | slan=>simp [pf] at h
  | slv=>simp [pf] at h
  | slve=>simp [pf] at h
  | slvn=>simp [pf] at h
  | epa=>simp [pf] at h
  | nils=>exact .nils
  | fn=>simp [pf] at h
  | nilf=>exact .nilf
  | fnb=>simp [pf] at h
  | yld=>simp [pf] at h
  | ifc=>simp [pf] at h
  | nili=>exact .nili
  | dat len get blk base sz cap val eN hsz hv hh=>exact .dat len get blk base sz cap val eN hsz hv hh
  | datn get=>exact .datn get
  | datz get a c=>exact .datz get a c
  | dptr cs blk base val hv hh=>exact .dptr cs blk base val hv hh
def ValOk (P:Program) (f:FuncId) (F:List AVal→Option (AVal×Bool)):Prop:=
 ∀args v,F args=some (v,true)→ ∀(H:Old) (vals:Array Value) (w:World),Vj (Ym (z3n H)) args vals.toList→(∀k o,H k=some o→w.heap[k]? =some o)→
  Calls P f vals w fun e w'=> ∃H' u,(∀k o,H k=some o→H' k=some o)∧(∀k o,H' k=some o→w'.heap[k]? =some o)∧(∀k,k<w.heap.size→H' k=H k)∧e=.returned u∧Ym (z3n H') v u∧RowKit.Below w.heap.size w w'
def x4u (P:Program) (f:FuncId) (F:List AVal→Mem→Option (AVal×Nat×ABlk×Bool)):Prop:=
 ∀args mem v b blk,F args mem=some (v,b,blk,true)→(Xv mem b).isSome =true→ ∀(ρ:Rho) (next floor:Nat) (vals:Array Value) (w:World),floor≤b→Vj (Ym ρ) args vals.toList→Rel ρ mem next w→
  Calls P f vals w fun e w'=> ∃u,e=.returned u∧Ym ρ v u∧Rel ρ (We mem b (some blk)) next w'∧Ev ρ ρ floor mem next (We mem b (some blk)) next w w'
def SpecOk (P:Program) (f:FuncId):Spec→Prop
 | .val F=>ValOk P f F
 | .eff F=>x4u P f F
def Zq (P:Program) (S:Specs):Prop:=
 ∀f F,S f=some F→(∃fn,P.funcs[f]? =some fn∧fn.body.isSome=true)∧SpecOk P f F
def z9s (P:Program):Prop:= ∀(f:FuncId) (fn:Func),P.funcs[f]? =some fn→fn.body.isSome=true→(fn.name == "runtime.NumGoroutine")=false
def ROk (P:Program) (R:Runner):Prop:=
 ∀ cx todo st st',cx.floor≤st.next→R cx todo st=some st'→st'.ob=true→ ∀(ρ:Rho) (a:Act) (w:World) (b:Frame) (cs:List Frame),a.defers=[]→Wq ρ st.env cx.n a.tmps→Rel ρ st.mem st.next w→
  ∃ρ' a' todo' w',Steps P (lone (b.at a todo) cs w) (lone {b.at a' todo' with mode:=.returning} cs w')∧a'.defers=[]∧Wq ρ' st'.env cx.n a'.tmps∧Rel ρ' st'.mem st'.next w'∧
   Ev ρ ρ' cx.floor st.mem st.next st'.mem st'.next w w'
theorem y4t : ∀(args:List AVal) (i:Nat) (t:T AVal) (k:Nat),T.get .undef (z9i args i t) k=if i≤k∧k<i+args.length then args.getD (k - i) .undef else T.get .undef t k
 | [],i,t,k=>by rw [if_neg (by intro h;simp at h;omega)];rfl
 | a::r,i,t,k=>by
  simp only [z9i];rw [y4t r (i+1) _ k,T.get_set];by_cases h1:k=i
  ·subst h1;rw [if_neg (by omega),if_pos rfl,if_pos (by simp)];simp
  ·by_cases h2:i+1≤k∧k<i+1+r.length
   ·rw [if_pos h2,if_pos (by simp;omega)];have:k - i=(k - (i+1))+1:=(by omega);rw [this];simp
   ·rw [if_neg h2,if_neg h1,if_neg (by simp;omega)]
def x2g (tmps:Array Value):ResultVar→Sem Value
 | .tmp t=>pure (tmps.getD t undef)
 | .cell a t=>do loadVar t (←asAddr (tmps.getD a undef))
theorem w3l (fn:Func) (tmps:Array Value):results fn tmps=(do
  let vs←fn.results.mapM (x2g tmps)
  pure (if h:vs.size=1 then vs[0] else .tuple vs)):=by
 unfold results;have:(fun r:ResultVar=>(match r with | .tmp t=>pure (tmps.getD t undef) | .cell a t=>do loadVar t (←asAddr (tmps.getD a undef)):Sem Value))=x2g tmps:=by
  funext r
  cases r <;> rfl
 rw [←this];rfl
theorem x1j {st:St} {w:World} {tmps:Array Value} {n:Nat} (eK:Wq ρ st.env n tmps) (eG:Rel ρ st.mem st.next w) {r:ResultVar} {v:AVal} (h:x1k P st r=some v):
  ∃u,Ym ρ v u∧(x2g tmps r).run P w=.ok u w:=by
 have get: ∀t,Ym ρ (st.tmp t) (tmps.getD t undef):=fun t=>eK.get t;cases r with
 | tmp t=>simp only [x1k,Option.some.injEq] at h;subst h;exact ⟨_,get t,rfl⟩
 | cell a t=>
  simp only [x1k] at h;obtain ⟨z,hz,hr⟩:=y5j eG h (get a);refine ⟨z,hz,?_⟩;have ha:=get a;unfold x2g;simp only;generalize tmps.getD a undef=u at ha hr ⊢;unfold x9d at h;split at h
  ·rename_i e;rw [e] at ha;cases ha
   simpa [Instr.loadAt,Instr.sureAddr,asAddr] using hr
  ·rename_i e;rw [e] at ha;cases ha
   simpa [Instr.loadAt,Instr.sureAddr,asAddr] using hr
  ·cases h
theorem z5p {st:St} {w:World} {tmps:Array Value} {n:Nat} (eK:Wq ρ st.env n tmps) (eG:Rel ρ st.mem st.next w): ∀{rs:List ResultVar} {vs:List AVal},Kx P st rs=some vs→
  ∃us,Vj (Ym ρ) vs us∧(rs.mapM (x2g tmps)).run P w=.ok us w
 | [],vs,h=>by simp only [Kx,Option.some.injEq] at h;subst h;exact ⟨[],.nil,by simp⟩
 | r::rs,vs,h=>by
  unfold Kx at h;split at h
  ·rename_i v vs' h1 h2;obtain rfl:=Option.some.inj h;obtain ⟨u,hu,hr⟩:=x1j eK eG h1;obtain ⟨us,hus,hrs⟩:=z5p eK eG h2;refine ⟨u::us,.cons hu hus,?_⟩;rw [List.mapM_cons,Sem.run_bind,hr];simp only [Result.andThen_ok,Sem.run_bind,hrs,Sem.run_pure]
  ·cases h
theorem z2b {fn:Func} {st:St} {w:World} {tmps:Array Value} {n:Nat} (eK:Wq ρ st.env n tmps) (eG:Rel ρ st.mem st.next w) {vs:List AVal} (h:Kx P st fn.results.toList=some vs):
  ∃u,Ym ρ (Qr vs) u∧(results fn tmps).run P w=.ok u w:=by
 obtain ⟨us,hus,hr⟩:=z5p eK eG h;refine ⟨if h:us.toArray.size=1 then us.toArray[0] else .tuple us.toArray,?_,?_⟩
 ·cases hus with
  | nil=>exact .tup [] _ rfl fun i h1 _=>by simp at h1
  | cons h1 hs=>cases hs with
   | nil=>simpa [Qr] using h1
   | cons h2 hs=>have fJ:=Vj.cons h1 (Vj.cons h2 hs);have hl:=fJ.length;simp only [Qr];rw [dif_neg (by simp)];exact .tup _ _ (by simpa using hl) fun i h1 h2=>by simpa using fJ.get i h1 (by simpa using h2)
 ·rw [w3l,Sem.run_bind,Array.mapM_eq_mapM_toList,Sem.run_map,hr];rfl
theorem y4s {args:List AVal} {vals:Array Value} (h:Vj (Ym ρ) args vals.toList) (ntmps:Nat):
  Wq ρ (z9i args 0 .leaf) (Nat.max ntmps args.length) (vals++Array.replicate (ntmps - vals.size) undef):=by
 have hl:args.length=vals.size:=by simpa using h.length
 have hmax:Nat.max ntmps args.length=vals.size+(ntmps - vals.size):=by have:Nat.max ntmps args.length=max ntmps args.length:=rfl;rw [this];omega
 refine ⟨by rw [hmax];simp,fun i=> ?_,fun i hi=> ?_⟩
 ·rw [y4t];by_cases hi:i<args.length
  ·rw [if_pos (by omega)];have h2:i<vals.toList.length:=by rw [←h.length];exact hi
   have:=h.get i hi h2;have e1:args.getD (i - 0) .undef =args[i]:=by simp [hi]
   have e2:(vals++Array.replicate (ntmps - vals.size) undef).getD i undef=vals.toList[i]:=by have h3:i<vals.size:=(by simpa using h2);simp [Array.getElem?_append,h3]
   rw [e1,e2];exact this
  ·rw [if_neg (by omega)];exact .undef _
 ·have hle:args.length≤Nat.max ntmps args.length:=Nat.le_max_right _ _;rw [y4t,if_neg (by omega)];rfl
theorem z1n {f:FuncId} {fn:Func} (hN:z9s P) (hf:P.funcs[f]? =some fn) (hb:fn.body.isSome=true) (args:Array Value) (w:World):(callFunc f args).run P w=.ok (.enter f args) w:=by
 have h1: ¬fn.name= "runtime.NumGoroutine" :=by simpa using hN f fn hf hb
 have h2: ¬fn.body=none:=by intro e;rw [e] at hb;cases hb
 simp [callFunc,hf,h1,h2]
theorem x5c {mem:Mem} {next:Nat} {w:World} (h:Rel ρ mem next w) {a a':AVal} {o:Bool} (hv:u5i mem a=(a',o)) (ho:o=true) {u:Value} (hr:Ym ρ a u) (hp:pf 3 a'=true):Ym (z3n fun k=>w.heap[k]?) a' u:=by
 subst ho;have hle:ρ.bare.le (z3n fun k=>w.heap[k]?):=⟨fun _ _ e=>(by cases e),fun k o e=>h.old k o e,fun _ _ e=>(by cases e)⟩
 unfold u5i at hv;split at hv
 ·rename_i b sz off len cap;split at hv
  ·rename_i blk hm;split at hv
   ·rename_i A hA;simp only [Prod.mk.injEq,Bool.and_eq_true,decide_eq_true_eq] at hv;obtain ⟨rfl,h1,h2,h3⟩:=hv;obtain rfl:=Nat.eq_of_beq_eq_true h1;have h3:= @of_decide_eq_true _ (Classical.propDecidable _) h3;cases hr with
    | slan=>exact .datn _
    | sla _ _ _ _ _ l c hρ eN eH=>
     obtain ⟨fG,gH,eW⟩:=(h.blk b l blk hρ hm).arr A hA;obtain ⟨cur,el,hh,_⟩:=(h.blk b l blk hρ hm).cells;refine .dat len _ l.blk (l.base+off*A.sz) A.sz c (fun i j=>(w.cell? ⟨l.blk,l.base+(off+i)*A.sz+j,none⟩).getD undef) eH (fun i hi=>eW _ (by omega)) (fun i j hi hj=> ?_) (fun i j hi hj=> ?_)
     ·obtain ⟨v,e1,e2⟩:=(h.rowAt hρ hm hA (r:=off+i) (by omega)) j hj;simp only [e1,Option.getD_some];exact (Qm 6 _ _ (List.all_eq_true.1 (h3 (off+i)) _ (List.getElem_mem hj)) e2).mono hle
     ·obtain ⟨v,e1,e2⟩:=(h.rowAt hρ hm hA (r:=off+i) (by omega)) j (by rw [eW _ (by omega)];exact hj);simp only [e1,Option.getD_some];refine ⟨cur,el,(0,0),hh,?_⟩;simp only [World.cell?,hh] at e1;rw [←e1]
      congr 1
      rw [Nat.add_mul];omega
   ·simp only [Prod.mk.injEq] at hv;obtain ⟨rfl,_⟩:=hv;simp [pf] at hp
  ·simp only [Prod.mk.injEq] at hv;obtain ⟨rfl,_⟩:=hv;simp [pf] at hp
 ·simp only [Prod.mk.injEq] at hv;obtain ⟨rfl,_⟩:=hv;exact (Qm 3 _ _ hp hr).mono hle
theorem x5d {mem:Mem} {next:Nat} {w:World} (h:Rel ρ mem next w) {az:List AVal} {us:List Value} (hr:Vj (Ym ρ) az us): ∀{az':List AVal} {o:Bool},w6a mem az=(az',o)→o=true→az'.all (pf 3)=true→Vj (Ym (z3n fun k=>w.heap[k]?)) az' us:=by
 induction hr with
 | nil=>intro az' o hv _ _;simp only [w6a,Prod.mk.injEq] at hv;obtain ⟨rfl,_⟩:=hv;exact .nil
 | @cons a b l m h1 _ ih=>intro az' o hv ho hp;unfold w6a at hv;split at hv;rename_i a1 o1 as1 q1 e1 e2;simp only [Prod.mk.injEq] at hv;obtain ⟨rfl,rfl⟩:=hv;simp only [Bool.and_eq_true] at ho;simp only [List.all_cons,Bool.and_eq_true] at hp;exact .cons (x5c h e1 ho.1 h1 hp.1) (ih e2 ho.2 hp.2)
theorem w2w {σ:Rho} {v:AVal} {u:Value} (hs:scal v=true) (h:Ym σ v u):Ym ρ v u:=by
 cases h with
 | bool=>exact .bool _
 | int=>exact .int _ _
 | str=>exact .str _
 | tup cs vs hl hh=>
  simp only [scal,List.all_eq_true] at hs;refine .tup cs vs hl fun i h1 h2=> ?_;have k1:=hs _ (List.getElem_mem h1);have k2:=hh i h1 h2;generalize cs[i]=a at k1 k2;generalize vs[i]=b at k2;cases k2 with
  | bool=>exact .bool _
  | int=>exact .int _ _
  | str=>exact .str _
  | _=>simp at k1
 | _=>simp [scal] at hs
theorem y5o {S:Specs} {R:Runner} (hS:Zq P S) (hR:ROk P R) {lift:Bool} {f:FuncId} {args:List AVal} {cx:Ctx} {st st':St} {v:AVal} (hcx:cx.floor≤st.next) (h:w5l P S R lift f args cx st=some (v,st')) (hob:st'.ob=true)
  {vals:Array Value} (eL:Vj (Ym ρ) args vals.toList) {w:World} (eG:Rel ρ st.mem st.next w):
  (∃fn,P.funcs[f]? =some fn∧fn.body.isSome=true)∧Calls P f vals w fun e w'=> ∃ρ' u,e=.returned u∧x1u ρ cx.floor st st' v w ρ' u w':=by
 unfold w5l at h;split at h
 ·rename_i F hF;rcases Jh h with ⟨hca,h⟩ | ⟨_,h⟩
  ·split at h
   ·rename_i v' b hFa;obtain ⟨hc2,h⟩:=Yk h;have hc1:=List.all_eq_true.1 hca;simp only [Option.map_eq_some_iff,Prod.mk.injEq] at h;obtain ⟨st1,h1,rfl,rfl⟩:=h;obtain ⟨_,e2,e3,e4⟩:=Xs h1;obtain ⟨rfl,_⟩:=e4 hob;obtain ⟨hfn,fA⟩:=hS f _ hF;refine ⟨hfn,?_⟩;have hargs0:Vj (Ym ρ.bare) args vals.toList:=Vj.of eL.length fun i g1 g2=>Qm 3 _ _ (hc1 _ (List.getElem_mem g1)) (eL.get i g1 g2);refine (fA args v' hFa ρ.fz vals w hargs0 eG.old).mono fun e w' ⟨H',u,hle,hold,fD,he,hv,hb⟩=>⟨⟨ρ.f,H',ρ.lp⟩,u,he,Ym.mono (ρ:=z3n H') (ρ':=⟨ρ.f,H',ρ.lp⟩) ⟨fun _ _ e=>(by cases e),fun _ _ e=>e,fun _ _ e=>(by cases e)⟩ hv,?_,?_⟩
    ·rw [e2,e3];have hle':ρ.le ⟨ρ.f,H',ρ.lp⟩:=⟨fun _ _ e=>e,hle,fun _ _ e=>e⟩
     exact ⟨eG.dom,eG.inj,fun b l ab q1 q2=>(eG.blk b l ab q1 q2).world hle' (hb.block _ (eG.real b l q1)),hold,fun b l q hs=>(fD _ (eG.real b l q)).trans (eG.sep b l q hs),fun b l q=>Nat.lt_of_lt_of_le (eG.real b l q) hb.size,eG.bd,eG.ldom⟩
    ·rw [e2,e3];exact ⟨⟨fun _ _ e=>e,hle,fun _ _ e=>e⟩,fun _ _=>rfl,Nat.le_refl _,fun _ _ _ _ _ h=>h,fun k o hk _=>by rw [hb.block k (Array.getElem?_eq_some_iff.1 hk).1];exact hk,
      fun b l hb' hl=>by have:=eG.dom b l hl;omega,hb.size,hb.os,hb.tape,hb.output,fD⟩
   ·cases h
  ·split at h;rename_i args' o hview;split at h
   ·rename_i v' b hFa;obtain ⟨hc,h⟩:=Yk h;simp only [Bool.and_eq_true] at hc;simp only [Option.map_eq_some_iff,Prod.mk.injEq] at h;obtain ⟨st1,h1,rfl,rfl⟩:=h;obtain ⟨_,e2,e3,e4⟩:=Xs h1;obtain ⟨hob1,_⟩:=e4 hob;simp only [Bool.and_eq_true] at hob1;obtain ⟨ho,rfl⟩:=hob1;obtain ⟨hfn,fA⟩:=hS f _ hF;refine ⟨hfn,?_⟩;have hargs0:=x5d eG eL hview ho hc.1;refine (fA args' v' hFa (fun k=>w.heap[k]?) vals w hargs0 fun _ _ e=>e).mono fun e w' ⟨H',u,hle,hold,fD,he,hv,hb⟩=>⟨ρ,u,he,w2w hc.2 hv,?_,?_⟩
    ·rw [e2,e3];exact ⟨eG.dom,eG.inj,fun b l ab q1 q2=>(eG.blk b l ab q1 q2).world (Rho.le_refl _) (hb.block _ (eG.real b l q1)),fun k o q=>by rw [hb.block k (Array.getElem?_eq_some_iff.1 (eG.old k o q)).1];exact eG.old k o q,eG.sep,fun b l q=>Nat.lt_of_lt_of_le (eG.real b l q) hb.size,eG.bd,eG.ldom⟩
    ·rw [e2,e3];exact ⟨Rho.le_refl _,fun _ _=>rfl,Nat.le_refl _,fun _ _ _ _ _ h=>h,fun k o hk _=>by rw [hb.block k (Array.getElem?_eq_some_iff.1 hk).1];exact hk,
      fun b l hb' hl=>by have:=eG.dom b l hl;omega,hb.size,hb.os,hb.tape,hb.output,fun _ _=>rfl⟩
   ·cases h
 ·rename_i F hF;split at h
  ·rename_i v0 b blk o hFa;split at h
   ·rename_i ab hm;obtain ⟨hc,h⟩:=Yk h;simp only [Bool.and_eq_true] at hc;simp only [Option.map_eq_some_iff,Prod.mk.injEq] at h;obtain ⟨st1,h1,rfl,rfl⟩:=h;obtain ⟨_,e2,e3,e4⟩:=Xs h1;obtain ⟨rfl,_⟩:=e4 hob;obtain ⟨hfn,fA⟩:=hS f _ hF;refine ⟨hfn,?_⟩;refine (fA args st.mem v0 b blk hFa (by rw [hm];rfl) ρ st.next cx.floor vals w (Nat.le_of_ble_eq_true hc.2) eL eG).mono fun e w' ⟨u,he,hv,hr,hev⟩=>⟨ρ,u,he,hv,?_,?_⟩
    ·rw [e2,e3];exact hr
    ·rw [e2,e3];exact hev
   ·cases h
  ·cases h
 ·split at h
  ·rename_i fn hf;split at h
   ·rename_i body hb;split at h
    ·rename_i st2 hr;split at h
     ·rename_i vs hvs;simp only [Option.some.injEq,Prod.mk.injEq] at h;obtain ⟨rfl,rfl⟩:=h;refine ⟨⟨fn,hf,by rw [hb];rfl⟩,?_⟩;intro cs
      let b:Frame:={(default:Frame) with fn:=f,kind:=.normal}
      have gE:Frame.enter P f vals .normal =b.at {tmps:=vals++Array.replicate (fn.ntmps - vals.size) undef,defers:=[]} [.code body]:=by simp [Frame.enter,Frame.at,hf,hb,b]
      obtain ⟨ρ',a',todo',w',eU,hd,eK,fF,hev⟩:=hR _ _ _ _ (by
       cases lift with
       | false=>exact hcx
       | true=>exact Nat.le_refl _) hr hob ρ {tmps:=vals++Array.replicate (fn.ntmps - vals.size) undef,defers:=[]} w b cs rfl (y4s eL fn.ntmps) eG
      obtain ⟨u,hu,gI⟩:=z2b eK fF hvs;rw [←gE] at eU;refine ⟨.returned u,w',_,⟨ρ',u,rfl,hu,fF,?_⟩,eU,rfl,rfl,hd,rfl,fn,hf,gI⟩;refine hev.lower ?_;cases lift with
      | false=>exact Nat.le_refl _
      | true=>exact hcx
     ·cases h
    ·cases h
   ·cases h
  ·cases h
theorem x1l {S:Specs} {R:Runner} (hN:z9s P) (hS:Zq P S) (hR:ROk P R) {lift:Bool} {o:Oper} {cx:Ctx} {st st':St} {v:AVal} (hcx:cx.floor≤st.next)
  (h:Wb P S R lift o.op cx st=some (v,st')) (hob:st'.ob=true) {ev:Operand→AVal} (hev: ∀x,x∈o.op.operands→ev x=st.eval x) {a:Act} (hr:z5r ρ ev a.eval o.op) {w:World} (eG:Rel ρ st.mem st.next w):
  Does P o a w (x1u ρ cx.floor st st' v w):=by
 obtain ⟨dst,op,type,pos,after,guard⟩:=o;simp only at h hr hev
 replace hr:z5r ρ st.eval a.eval op:=fun x hx=>by rw [←hev x hx];exact hr x hx
 clear hev;unfold Wb at h;split at h
 ·rename_i t x;split at h
  ·rename_i v' b st0 hv;obtain ⟨l1,l2,l3,l4⟩:=z2n hv;simp only [Option.map_eq_some_iff,Prod.mk.injEq] at h;obtain ⟨st1,h1,rfl,rfl⟩:=h;obtain ⟨e1,e2,e3,e4⟩:=Xs h1;obtain ⟨rfl,hob0⟩:=e4 hob;obtain ⟨z,hz,eI⟩:=y0m eG (l4 hob0).1 (hr x (by simp [Op.operands]));exact .inl ⟨ρ,z,w,by simp [execOp,eI],hz,by rw [e2,e3,l2,l3];exact eG,by rw [e2,e3,l2,l3];exact Ev.refl _ _ _ _ _ eG.dom⟩
  ·cases h
 ·rename_i t;simp only [Option.map_eq_some_iff,Prod.mk.injEq] at h;obtain ⟨z,hz,rfl,rfl⟩:=h;obtain ⟨_,zv,_,_,hzr,hzv⟩:=Wr (ρ:=ρ) hz;refine .inl ⟨_,.pointer (some ⟨w.heap.size,0,none⟩),_,?_,z4s eG cx.floor z t zv.cells t (by rw [hzr.1];exact Nat.le_refl _) hzr.2 _ _ fun ρ' hρ'=>.ptr _ 0 _ hρ'⟩;simp [execOp,Instr.alloc,hzv,newVar,newRow]
 ·rename_i t x;obtain ⟨hbx,h⟩:=Yk h;simp only [Option.some.injEq,Prod.mk.injEq] at h;obtain ⟨rfl,rfl⟩:=h;have hc:=(hr x (by simp [Op.operands])).cells hbx;refine .inl ⟨_,.pointer (some ⟨w.heap.size,0,none⟩),_,?_,z4s eG cx.floor _ t (a.eval x).cells t (by rw [hc.1];exact Nat.le_refl _) hc.2 _ _ fun ρ' hρ'=>.ptr _ 0 _ hρ'⟩;simp [execOp,Instr.box,newVar,newRow]
 ·rename_i t len parts;obtain ⟨ρ',u,w',eI,hp,_,_⟩:=z9p eG cx.floor h (y3p parts.toList fun p hp=>hr p.2 (by simp only [Op.operands,List.mem_toArray,List.mem_map];exact ⟨p,hp,rfl⟩));refine .inl ⟨ρ',u,w',?_,hp⟩;have:(parts.map fun (i,x)=>(i,a.eval x))=(parts.toList.map fun p=>(p.1,a.eval p.2)).toArray :=by apply Array.ext';simp
  simp [execOp,this,eI]
 ·rename_i t x y;split at h
  ·rename_i b sz r fo hb;simp only [Option.map_eq_some_iff,Prod.mk.injEq] at h;obtain ⟨st1,h,rfl,rfl⟩:=h;have hx:=hr x (by simp [Op.operands]);rw [hb] at hx;obtain ⟨w',eI,hp⟩:=x1i eG h hob hx (hr y (by simp [Op.operands]));exact .inr (.inl ⟨ρ,w',by simp [execOp,eI],hp⟩)
  ·simp only [Option.map_eq_some_iff,Prod.mk.injEq] at h;obtain ⟨st1,h,rfl,rfl⟩:=h;obtain ⟨w',eI,hp,_,_⟩:=x4f eG h (hr x (by simp [Op.operands])) (hr y (by simp [Op.operands]));exact .inr (.inl ⟨ρ,w',by simp [execOp,eI],hp⟩)
 ·rename_i t l c;rcases Jh h with ⟨_,h⟩ | ⟨_,h⟩
  ·rcases Jh h with ⟨_,h⟩ | ⟨_,h⟩
   ·obtain ⟨ρ',u,w',eI,hp,_,_⟩:=Qu (st:=st.dropO) eG cx.floor h (hr l (by simp [Op.operands])) (hr c (by simp [Op.operands]));exact .inl ⟨ρ',u,w',by simp [execOp,eI],hp.val,hp.rel,hp.ev⟩
   ·obtain ⟨ρ',u,w',eI,hp⟩:=z9m (st:=st.dropO) eG h hob (hr l (by simp [Op.operands])) (hr c (by simp [Op.operands]));exact .inl ⟨ρ',u,w',by simp [execOp,eI],hp.val,hp.rel,hp.ev⟩
  ·obtain ⟨ρ',u,w',eI,hp,_,_⟩:=Qu eG cx.floor h (hr l (by simp [Op.operands])) (hr c (by simp [Op.operands]));exact .inl ⟨ρ',u,w',by simp [execOp,eI],hp⟩
 ·rename_i args argTypes;have eL:Vj (Ym ρ) (args.toList.map st.eval) (args.map a.eval).toList :=by rw [Array.toList_map];exact Vj.maps _ _ _ fun x hx=>hr x (by simp [Op.operands,Call.operands];exact Array.mem_toList_iff.1 hx)
  unfold z5h at h;rcases Jh h with ⟨_,h⟩ | ⟨_,h⟩
  ·obtain ⟨ρ',u,w',eI,hp⟩:=y6a (type:=type) eG h hob eL;exact .inl ⟨ρ',u,w',by simp [execOp,resolve,invoke,builtin,eI],hp⟩
  split at h
  ·rename_i hxs;obtain ⟨ρ',u,w',eI,hp⟩:=y6b (type:=type) eG h hob (hxs ▸ eL);exact .inl ⟨ρ',u,w',by simp [execOp,resolve,invoke,builtin,eI],hp⟩
  ·obtain ⟨ρ',u,w',eI,hp,_,_⟩:=z2p (type:=type) eG cx.floor h eL;exact .inl ⟨ρ',u,w',by simp [execOp,resolve,invoke,builtin,eI],hp⟩
 ·rename_i args argTypes;have eL:Vj (Ym ρ) (args.toList.map st.eval) (args.map a.eval).toList :=by rw [Array.toList_map];exact Vj.maps _ _ _ fun x hx=>hr x (by simp [Op.operands,Call.operands];exact Array.mem_toList_iff.1 hx)
  unfold y9e at h;split at h
  ·rename_i b sz off len cap x xs hxs;obtain ⟨ρ',u,w',eI,hp⟩:=y0n (type:=type) (d:=.sla b sz off len cap) eG h hob (hxs ▸ eL) fun u hu=>by
    cases hu with
    | sla _ _ _ _ _ l c hρ _ eH=>exact .inl ⟨l,c,hρ,eH,rfl⟩
    | slan=>exact .inr ⟨rfl,none,0,rfl⟩
   exact .inl ⟨ρ',u,w',by simp [execOp,resolve,invoke,builtin,eI],hp⟩
  ·rename_i b sz off len x xs hxs;obtain ⟨ρ',u,w',eI,hp⟩:=y0n (type:=type) (d:=.slv b sz off len) eG h hob (hxs ▸ eL) fun u hu=>by
    cases hu with
    | slv _ _ _ _ l c hρ eH=>exact .inl ⟨l,c,hρ,eH,rfl⟩
    | slve _ _ _ blk base c=>exact .inr ⟨rfl,_,_,rfl⟩
    | slvn=>exact .inr ⟨rfl,none,0,rfl⟩
   exact .inl ⟨ρ',u,w',by simp [execOp,resolve,invoke,builtin,eI],hp⟩
  ·obtain ⟨ρ',u,w',eI,hp,_,_⟩:=x9f (type:=type) eG cx.floor h eL;exact .inl ⟨ρ',u,w',by simp [execOp,resolve,invoke,builtin,eI],hp⟩
 ·rename_i args argTypes;have eL:Vj (Ym ρ) (args.toList.map st.eval) (args.map a.eval).toList :=by rw [Array.toList_map];exact Vj.maps _ _ _ fun x hx=>hr x (by simp [Op.operands,Call.operands];exact Array.mem_toList_iff.1 hx)
  obtain ⟨ρ',u,w',eI,hp,_,_⟩:=x4l (type:=type) eG cx.floor h eL;exact .inl ⟨ρ',u,w',by simp [execOp,resolve,invoke,builtin,eI],hp⟩
 ·rename_i f args argTypes;split at h
  ·rename_i g caps hg;have hf:=hr f (by simp [Op.operands,Call.operands]);rw [hg] at hf;generalize hw:a.eval f=u at hf;cases hf with
   | fn _ _ cvs hl hh=>
    have eL:Vj (Ym ρ) (args.toList.map st.eval++caps) (args.map a.eval++cvs).toList :=by rw [Array.toList_append,Array.toList_map];exact Vj.append (Vj.maps _ _ _ fun x hx=>hr x (by simp [Op.operands,Call.operands];exact .inr (Array.mem_toList_iff.1 hx))) (Vj.of (by simpa using hl) fun i h1 h2=>by simpa using hh i h1 (by simpa using h2))
    obtain ⟨⟨fn,hfn,hb⟩,hc⟩:=y5o hS hR hcx h hob eL eG;refine .inr (.inr ⟨g,args.map a.eval++cvs,?_,hc⟩);have:=z1n hN hfn hb (args.map a.eval++cvs) w;simp [execOp,resolve,Deferred.ofValue,hw,invoke,this]
  ·rename_i g first hg
   have hf:=hr f (by simp [Op.operands,Call.operands]);rw [hg] at hf;generalize hw:a.eval f=u at hf;cases hf with
   | fnb _ _ cvs hl hh=>
    have eL:Vj (Ym ρ) (first++args.toList.map st.eval) (cvs++args.map a.eval).toList :=by rw [Array.toList_append,Array.toList_map];exact Vj.append (Vj.of (by simpa using hl) fun i h1 h2=>by simpa using hh i h1 (by simpa using h2)) (Vj.maps _ _ _ fun x hx=>hr x (by simp [Op.operands,Call.operands];exact .inr (Array.mem_toList_iff.1 hx)))
    obtain ⟨⟨fn,hfn,hb⟩,hc⟩:=y5o hS hR hcx h hob eL eG;refine .inr (.inr ⟨g,cvs++args.map a.eval,?_,hc⟩);have:=z1n hN hfn hb (cvs++args.map a.eval) w;simp [execOp,resolve,Deferred.ofValue,hw,invoke,this]
  ·cases h
 ·cases h
end
end Go.Am
namespace Go.Am
section
variable {P:Program} {ρ:Rho}
theorem Wq.congr {env env':T AVal} {n:Nat} {tmps:Array Value} (h:Wq ρ env n tmps) (he: ∀t,T.get .undef env' t=T.get .undef env t):Wq ρ env' n tmps:=
 ⟨h.size,fun i=>by rw [he];exact h.get i,fun i hi=>by rw [he];exact h.out i hi⟩
theorem Wq.eval {st:St} {n:Nat} {a:Act} (h:Wq ρ st.env n a.tmps) (x:Operand):Ym ρ (st.eval x) (a.eval x):=by
 cases x with
 | tmp t=>exact h.get t
 | const v=>exact w9n v
 | global g=>exact .undef _
 | func f=>exact .fn f [] #[] rfl fun i h1 _=>by simp at h1
theorem Wq.put {env env':T AVal} {n:Nat} {a:Act} (h:Wq ρ env n a.tmps) {dst:Option Tmp} {v:AVal} {u:Value} (hv:Ym ρ v u)
  (hp:(dst=none∧env'=env)∨ ∃d,dst=some d∧d<n∧env'=T.set .undef env d v):Wq ρ env' n (a.put dst u).tmps :=by
 rcases hp with ⟨rfl,rfl⟩ | ⟨d,rfl,hd,rfl⟩
 ·exact h
 ·have hsz:=h.size;refine ⟨by simp [Act.put,hsz],fun i=> ?_,fun i hi=> ?_⟩
  ·rw [T.get_set];by_cases hi:i=d
   ·subst hi;rw [if_pos rfl];have:i<a.tmps.size:=by rw [hsz];exact hd
    simpa [Act.put,this] using hv
   ·rw [if_neg hi];have:=h.get i
    simpa [Act.put,Array.getElem?_setIfInBounds_ne (Ne.symm hi)] using this
  ·rw [T.get_set,if_neg (Nat.ne_of_gt (Nat.lt_of_lt_of_le hd hi))];exact h.out i hi
theorem Act.put_defers' (a:Act) (dst:Option Tmp) (v:Value):(a.put dst v).defers =a.defers:=by cases dst <;> rfl
theorem w5f {ops:Array Oper} {o:Oper} {cx:Ctx} {st st':St} {e:Bool} (h:y0l ops o cx st=some (e,st')):st'.mem=st.mem∧st'.next=st.next∧(st'.ob=true→st.ob=true∧ ∀t,st'.tmp t=st.tmp t):=by
 unfold y0l at h;split at h
 ·simp only [Option.some.injEq,Prod.mk.injEq] at h;obtain ⟨_,rfl⟩:=h;exact ⟨rfl,rfl,fun h=>⟨h,fun _=>rfl⟩⟩
 ·split at h
  ·cases h
  ·rename_i d hd;split at h
   ·rename_i b hb;split at h;rename_i e1 st1 ht;split at h
    ·rename_i st2 hp;simp only [Option.some.injEq,Prod.mk.injEq] at h;obtain ⟨_,rfl⟩:=h;obtain ⟨t1,t2,t3,t4⟩:=y2t ht;obtain ⟨p1,p2,p3,p4⟩:=Kn hp;refine ⟨p1.trans t2,p2.trans t3,fun ho=> ?_⟩;rw [p3] at ho;obtain ⟨rfl,ho⟩:=t4 ho;refine ⟨ho,fun t=> ?_⟩;rcases p4 with ⟨e,_⟩ | ⟨d',e,_,he⟩
     ·cases e
     ·obtain rfl:=Option.some.inj e;show T.get .undef st2.env t=T.get .undef st.env t;rw [he,t1,T.get_set];split
      ·rename_i h;subst h;exact hb.symm
      ·rfl
    ·cases h
   ·simp only [Option.some.injEq,Prod.mk.injEq] at h;obtain ⟨_,rfl⟩:=h;exact ⟨rfl,rfl,fun h=>⟨h,fun _=>rfl⟩⟩
   ·cases h
def Qx (ops:Array Oper) (o:Oper):Option Tmp:=o.guard.bind fun g=>(ops[g.1]?).bind (·.dst)
theorem x9a {ops:Array Oper} {o:Oper} {cx:Ctx} {st st':St} {e:Bool} (h:y0l ops o cx st=some (e,st')) (ho:st'.ob=true) {tmps:Array Value} (hsz:tmps.size=cx.n)
  (hr: ∀d,Qx ops o=some d→Ym ρ (st.tmp d) (tmps.getD d undef)):Region.wanted o (yielded ops tmps)=e:=by
 unfold y0l at h;unfold Region.wanted;split at h
 ·rename_i hg;simp only [Option.some.injEq,Prod.mk.injEq] at h;obtain ⟨rfl,_⟩:=h;rw [hg]
 ·rename_i j want hg;rw [hg];simp only;split at h
  ·cases h
  ·rename_i d hd;have hrd:=hr d (by simp [Qx,hg,hd]);split at h
   ·rename_i b hb;split at h;rename_i e1 st1 ht;split at h
    ·rename_i st2 hp;simp only [Option.some.injEq,Prod.mk.injEq] at h;obtain ⟨rfl,rfl⟩:=h;obtain ⟨_,_,_,t4⟩:=y2t ht;obtain ⟨_,_,p3,p4⟩:=Kn hp;rw [p3] at ho;obtain ⟨rfl,_⟩:=t4 ho;rcases p4 with ⟨e,_⟩ | ⟨d',e,hlt,_⟩
     ·cases e
     ·obtain rfl:=Option.some.inj e;rw [hb] at hrd;have hlt':d<tmps.size:=by rw [hsz];exact hlt
      have eQ:tmps.getD d undef=tmps[d]:=(by simp [hlt']);rw [eQ] at hrd;have:yielded ops tmps j=some e1:=by unfold yielded;rw [hd];simp only [Option.bind_some,Array.getElem?_eq_getElem hlt'];generalize tmps[d]=u at hrd;cases hrd;rfl
      rw [this];cases e1 <;> cases want <;> rfl
    ·cases h
   ·rename_i hb;simp only [Option.some.injEq,Prod.mk.injEq] at h;obtain ⟨rfl,rfl⟩:=h;rw [hb] at hrd;have:yielded ops tmps j=none:=by
     unfold yielded;rw [hd];simp only [Option.bind_some];by_cases hlt:d<tmps.size
     ·have eQ:tmps.getD d undef=tmps[d]:=(by simp [hlt]);rw [eQ] at hrd;rw [Array.getElem?_eq_getElem hlt];generalize tmps[d]=u at hrd;cases hrd;rfl
     ·rw [Array.getElem?_eq_none (Nat.le_of_not_lt hlt)]
    rw [this];rfl
   ·cases h
theorem y4z {cx:Ctx} {t:Nat} {kd:IntKind} {n:Int} {st st':St} (ht:st.tmp t=.int kd n) (h:st.conc cx t kd n=some st'):st'.mem=st.mem∧st'.next=st.next∧(st'.ob=true→st.ob=true∧ ∀t,st'.tmp t=st.tmp t):=by
 obtain ⟨env,mem,next,orc,ob⟩:=st;cases orc with
 | nil=>obtain rfl:=Option.some.inj h;exact ⟨rfl,rfl,fun h=>⟨h,fun _=>rfl⟩⟩
 | cons o r=>
  unfold St.conc at h;obtain ⟨_,h⟩:=Yk h;obtain rfl:=Option.some.inj h;refine ⟨rfl,rfl,fun ho=> ?_⟩;simp only [Bool.and_eq_true,decide_eq_true_eq] at ho;refine ⟨ho.2,fun k=> ?_⟩;show T.get .undef (T.set .undef env t _) k=T.get .undef env k;rw [T.get_set];split
  ·rename_i e;subst e;rw [←ho.1];exact ht.symm
  ·rfl
theorem w5j {o:Oper} {cx:Ctx} {st st':St} (h:v9i o cx st=some st'):st'.mem=st.mem∧st'.next=st.next∧(st'.ob=true→st.ob=true∧ ∀t,st'.tmp t=st.tmp t):=by
 have same:some st=some st'→st'.mem=st.mem∧st'.next=st.next∧(st'.ob=true→st.ob=true∧ ∀t,st'.tmp t=st.tmp t):=fun e=>by obtain rfl:=Option.some.inj e;exact ⟨rfl,rfl,fun h=>⟨h,fun _=>rfl⟩⟩
 unfold v9i at h;split at h
 ·split at h
  ·split at h
   ·rename_i ht;exact y4z ht h
   ·exact same h
  ·split at h
   ·rename_i ht;exact y4z ht h
   ·exact same h
  ·exact same h
 ·split at h
  ·split at h
   ·rename_i ht;exact y4z ht h
   ·exact same h
  ·exact same h
 ·exact same h
theorem Qc {ops:Array Oper} {o:Oper} {cx:Ctx} {st st':St} {e:Bool} (h:z1a ops o cx st=some (e,st')): ∃st1,y0l ops o cx st=some (e,st1)∧st'.mem=st1.mem∧st'.next=st1.next∧(st'.ob=true→st1.ob=true∧ ∀t,st'.tmp t=st1.tmp t)∧(Yg o.op=.alloc ∨e=false→st'=st1):=by
 unfold z1a at h;split at h
 ·rename_i st1 h1;split at h
  ·rename_i st2 h2;simp only [Option.some.injEq,Prod.mk.injEq] at h;obtain ⟨rfl,rfl⟩:=h;obtain ⟨c1,c2,c3⟩:=w5j h2;refine ⟨st1,h1,c1,c2,c3,fun hk=> ?_⟩;rcases hk with hk | hk
   ·unfold v9i at h2;split at h2
    ·rename_i ho;rw [ho] at hk;cases hk
    ·rename_i ho;rw [ho] at hk;cases hk
    ·exact (Option.some.inj h2).symm
   ·cases hk
  ·cases h
 ·exact ⟨st',h,rfl,rfl,fun h=>⟨h,fun _=>rfl⟩,fun _=>rfl⟩
theorem z0b {ops:Array Oper} {o:Oper} {cx:Ctx} {st st':St} {e:Bool} (h:z1a ops o cx st=some (e,st')):st'.mem=st.mem∧st'.next=st.next∧(st'.ob=true→st.ob=true∧ ∀t,st'.tmp t=st.tmp t):=by obtain ⟨st1,h1,c1,c2,c3,_⟩:=Qc h;obtain ⟨w1,w2,w3⟩:=w5f h1;exact ⟨c1.trans w1,c2.trans w2,fun ho=>⟨(w3 (c3 ho).1).1,fun t=>((c3 ho).2 t).trans ((w3 (c3 ho).1).2 t)⟩⟩
theorem Qw {ops:Array Oper} {o:Oper} {cx:Ctx} {st st':St} {e:Bool} (h:z1a ops o cx st=some (e,st')) (ho:st'.ob=true) {tmps:Array Value} (hsz:tmps.size=cx.n)
  (hg: ∀d,Qx ops o=some d→Ym ρ (st.tmp d) (tmps.getD d undef)):Region.wanted o (yielded ops tmps)=e:=by
 obtain ⟨st1,h1,_,_,c3,_⟩:=Qc h;exact x9a h1 (c3 ho).1 hsz hg
structure j1l (P:Program) (cx:Ctx) (o:Oper) (st st':St) (v:AVal):Prop where
 ob:st.ob=true
 does: ∀(ρ:Rho) (a:Act) (w:World) (ev:Operand→AVal),(∀x,x∈o.op.operands→ev x=st.eval x)→z5r ρ ev a.eval o.op→Rel ρ st.mem st.next w→Does P o a w (x1u ρ cx.floor st st' v w)
 calm:(Yg o.op=.pure ∨Yg o.op=.read)→ ∀(ρ:Rho) (a:Act) (w:World) (ev:Operand→AVal) (mem:Mem) (next:Nat),(∀x,x∈o.op.operands→ev x=st.eval x)→z5r ρ ev a.eval o.op→Rel ρ mem next w→
  (∀t y b ab,o.op=.load t y→w8t o.op ev=some b→Xv st.mem b=some ab→Xv mem b=some ab)→ ∃u,(execOp a.eval o).run P w=.ok (.value u) w∧Ym ρ v u
theorem v0k {op:Op} {ev:Operand→AVal} {x:AVal×Bool} (h:Kf P op ev=some x):Yg op=.pure :=by
 cases op with
 | call c=>
  obtain ⟨callee,args,argTypes⟩:=c;cases callee with
  | builtin b=>cases b <;> first | rfl | (simp [Kf,y2r] at h)
  | value f=>simp [Kf] at h
  | invoke r m=>rfl
 | _=>first | rfl | (simp [Kf] at h;done)
theorem x6v {S:Specs} {R:Runner} (hN:z9s P) (hS:Zq P S) (hRI:w2a R) (hR:ROk P R) {lift:Bool} {o:Oper} {cx:Ctx} {st st':St} (hcx:cx.floor≤st.next) (h:y0c P S R lift o cx st=some st'):
  ∃v stm,stm.put cx o.dst v=some st'∧stm.env=st.env∧Wp cx.floor st stm∧((Yg o.op=.pure ∨Yg o.op=.read)→stm.mem=st.mem∧stm.next=st.next)∧
   (lift=true→Yg o.op=.call → ∀b,b<st.next→Xv stm.mem b=Xv st.mem b)∧
   (Yg o.op=.chain → ∀b,b<st.next→x1v o.op st.eval≠some b→Xv stm.mem b=Xv st.mem b)∧
   (Yg o.op=.alloc →v=.ptr st.next 0∧ ∃t z,o.op=.alloc t∧Ko P t=some z∧stm=y2q st z t)∧
   (st'.ob=true→j1l P cx o st stm v):=by
 unfold y0c at h;split at h
 ·rename_i v b hp;have hk:=v0k hp;split at h
  ·rename_i st1 h1;obtain ⟨e1,e2,e3,e4⟩:=Xs h1;refine ⟨v,st1,h,e1,Wp.same e2 e3 fun x=>(e4 x).2,fun _=>⟨e2,e3⟩,(fun _ hc=>by rw [hk] at hc;cases hc),(fun hc=>by rw [hk] at hc;cases hc),(fun hc=>by rw [hk] at hc;cases hc),fun ho=> ?_⟩;obtain ⟨_,_,p3,_⟩:=Kn h;rw [p3] at ho;obtain ⟨rfl,ho1⟩:=e4 ho;refine ⟨ho1,fun ρ a w ev hev hr eG=> ?_,fun _ ρ a w ev mem next hev hr eG hag=> ?_⟩
   ·have hr':z5r ρ st.eval a.eval o.op:=fun x hx=>by rw [←hev x hx];exact hr x hx
    obtain ⟨u,hu,eI⟩:=y5h hp rfl hr';exact .inl ⟨ρ,u,w,eI w,hu,by rw [e2,e3];exact eG,by rw [e2,e3];exact Ev.refl _ _ _ _ _ eG.dom⟩
   ·have hr':z5r ρ st.eval a.eval o.op:=fun x hx=>by rw [←hev x hx];exact hr x hx
    obtain ⟨u,hu,eI⟩:=y5h hp rfl hr';exact ⟨u,eI w,hu⟩
  ·cases h
 ·split at h
  ·rename_i v stm he;obtain ⟨hinv,eK⟩:=y5l hRI he;refine ⟨v,stm,h,eK,hinv,fun hk=> ?_,fun hl hk b hb=> ?_,fun hk b hb hn=>x4k hk hb hn he,fun hk=> ?_,fun ho=> ?_⟩
   ·obtain ⟨dst,op,type,pos,after,guard⟩:=o;simp only at hk he;cases op with
    | load t x=>
     simp only [Wb] at he;split at he
     ·rename_i hl;obtain ⟨l1,l2,l3,l4⟩:=z2n hl;simp only [Option.map_eq_some_iff,Prod.mk.injEq] at he;obtain ⟨_,h1,_,rfl⟩:=he;obtain ⟨_,e2,e3,_⟩:=Xs h1;exact ⟨e2.trans l2,e3.trans l3⟩
     ·cases he
    | call c=>
     obtain ⟨callee,args,argTypes⟩:=c;cases callee with
     | builtin b=>cases b <;> first | (simp [Wb] at he;done) | (simp [Yg] at hk;done)
     | value f=>simp [Yg] at hk
     | invoke r m=>simp [Wb] at he
    | _=>first | (simp [Wb] at he;done) | (simp [Yg] at hk;done)
   ·obtain ⟨dst,op,type,pos,after,guard⟩:=o;simp only at hk he;cases op with
    | call c=>
     obtain ⟨callee,args,argTypes⟩:=c;cases callee with
     | builtin b=>cases b <;> first | (simp [Wb] at he;done) | (simp [Yg] at hk;done)
     | value f=>
      simp only [Wb] at he;split at he
      ·exact (z8i hRI he).1.2 hl b hb
      ·exact (z8i hRI he).1.2 hl b hb
      ·cases he
     | invoke r m=>simp [Wb] at he
    | _=>first | (simp [Wb] at he;done) | (simp [Yg] at hk;done)
   ·obtain ⟨dst,op,type,pos,after,guard⟩:=o;simp only at hk he;cases op with
    | alloc t=>simp only [Wb,Option.map_eq_some_iff,Prod.mk.injEq] at he;obtain ⟨z,hz,rfl,rfl⟩:=he;exact ⟨rfl,t,z,rfl,hz,rfl⟩
    | call c=>
     obtain ⟨callee,args,argTypes⟩:=c;cases callee with
     | builtin b=>cases b <;> first | (simp [Wb] at he;done) | (simp [Yg] at hk;done)
     | value f=>simp [Yg] at hk
     | invoke r m=>simp [Wb] at he
    | _=>first | (simp [Wb] at he;done) | (simp [Yg] at hk;done)
   ·obtain ⟨_,_,p3,_⟩:=Kn h;rw [p3] at ho;refine ⟨hinv.ob ho,fun ρ a w ev hev hr eG=>x1l hN hS hR hcx he ho hev hr eG,fun hk ρ a w ev mem next hev hr eG hag=> ?_⟩;obtain ⟨dst,op,type,pos,after,guard⟩:=o;simp only at hk he hev hr hag;cases op with
    | load t x=>
     simp only [Wb] at he;split at he
     ·rename_i v' bb st0 hv;obtain ⟨l1,l2,l3,l4⟩:=z2n hv;simp only [Option.map_eq_some_iff,Prod.mk.injEq] at he;obtain ⟨st1,h1,rfl,rfl⟩:=he;obtain ⟨_,_,_,e4⟩:=Xs h1;obtain ⟨rfl,hob0⟩:=e4 ho;have hv:=(l4 hob0).1;have hx:x∈(Op.load t x).operands :=(by simp [Op.operands]);have hl:y5k P mem t (ev x)=some (v',true):=by
       rw [hev x hx];have hag': ∀b ab,w8t (.load t x) st.eval=some b→Xv st.mem b=some ab→Xv mem b=some ab:=fun b ab q1 q2=>hag t x b ab rfl (by simp only [w8t,hev x hx] at q1 ⊢;exact q1) q2;unfold y5k at hv ⊢;split at hv
       ·rename_i b sz r fo hb;simp only [w8t,hb] at hag';split at hv
        ·rename_i ab hm;rw [hag' b ab rfl hm];exact hv
        ·cases hv
       ·rename_i y hy;unfold x9d at hv ⊢;split at hv
        ·rename_i b off hb;simp only [w8t,hb] at hag';split at hv
         ·rename_i ab hm;rw [hag' b ab rfl hm];exact hv
         ·cases hv
        ·exact hv
        ·cases hv
      obtain ⟨z,hz,eI⟩:=y0m eG hl (hr x hx);exact ⟨z,by simp [execOp,eI],hz⟩
     ·cases he
    | call c=>
     obtain ⟨callee,args,argTypes⟩:=c;cases callee with
     | builtin b=>cases b <;> first | (simp [Wb] at he;done) | (simp [Yg] at hk;done)
     | value f=>simp [Yg] at hk
     | invoke r m=>simp [Wb] at he
    | _=>first | (simp [Wb] at he;done) | (simp [Yg] at hk;done)
  ·cases h
theorem z6a {S:Specs} {R:Runner} {ops:Array Oper} {cx:Ctx} {x:Bool×Oper} {l:List (Bool×Oper)} {st:St}:y7r P S R ops cx (x::l) st=(y0q P S R ops cx x st).bind (y7r P S R ops cx l):=by
 show (match z1a ops x.2 cx st with
  | none=>none
  | some (true,st)=>match y0c P S R x.1 x.2 cx st with
   | some st=>y7r P S R ops cx l st
   | none=>none
  | some (false,st)=>match st.put cx x.2.dst (.tup []) with
   | some st=>y7r P S R ops cx l st
   | none=>none)=_
 unfold y0q;cases h:z1a ops x.2 cx st with
 | none=>rfl
 | some y=>
  obtain ⟨e,st1⟩:=y;cases e with
  | true=>simp only [];cases y0c P S R x.1 x.2 cx st1 <;> rfl
  | false=>simp only [];cases st1.put cx x.2.dst (.tup []) <;> rfl
structure v9j (P:Program) (ops:Array Oper) (cx:Ctx) (x:Bool×Oper) (st st':St):Prop where
 inv:Wp cx.floor st st'
 stay:(Yg x.2.op=.pure ∨Yg x.2.op=.read)→st'.mem=st.mem∧st'.next=st.next
 lift:x.1=true→Yg x.2.op=.call → ∀b,b<st.next→Xv st'.mem b=Xv st.mem b
 foot:st'.ob=true→Yg x.2.op=.chain → ∀b,b<st.next→x1v x.2.op st.eval≠some b→Xv st'.mem b=Xv st.mem b
 alloc:Yg x.2.op=.alloc →x.2.guard=none→ ∃t z,x.2.op=.alloc t∧Ko P t=some z∧st'.mem=(y2q st z t).mem ∧st'.next=(y2q st z t).next ∧ ∀d,x.2.dst=some d→st'.tmp d=.ptr st.next 0
 slot: ∀d,x.2.dst=some d→d<cx.n
 other:st'.ob=true→ ∀t,x.2.dst≠some t→st'.tmp t=st.tmp t
 does:st'.ob=true→ ∀(ρ:Rho) (a:Act) (w:World) (ev:Operand→AVal),a.tmps.size=cx.n→(∀y,y∈x.2.op.operands→ev y=st.eval y)→(∀d,Qx ops x.2=some d→Ym ρ (st.tmp d) (a.tmps.getD d undef))→z5r ρ ev a.eval x.2.op→Rel ρ st.mem st.next w→
  ∀(K:Act→World→Prop) (Q:Exit→Act→World→Prop),(∀ρ' u w',(∀d,x.2.dst=some d→Ym ρ' (st'.tmp d) u)→Rel ρ' st'.mem st'.next w'→Ev ρ ρ' cx.floor st.mem st.next st'.mem st'.next w w'→K (a.put x.2.dst u) w')→
   if Region.wanted x.2 (yielded ops a.tmps) then x.2.wp P a w K Q else K (a.put x.2.dst undef) w
 calm:st'.ob=true→(Yg x.2.op=.pure ∨Yg x.2.op=.read)→ ∀(ρ:Rho) (a:Act) (w:World) (ev:Operand→AVal) (mem:Mem) (next:Nat),a.tmps.size=cx.n→(∀y,y∈x.2.op.operands→ev y=st.eval y)→(∀d,Qx ops x.2=some d→Ym ρ (st.tmp d) (a.tmps.getD d undef))→z5r ρ ev a.eval x.2.op→Rel ρ mem next w→
  (∀t y b ab,x.2.op=.load t y→w8t x.2.op ev=some b→Xv st.mem b=some ab→Xv mem b=some ab)→ ∀(K:Act→World→Prop) (Q:Exit→Act→World→Prop),(∀u,(∀d,x.2.dst=some d→Ym ρ (st'.tmp d) u)→K (a.put x.2.dst u) w)→
   if Region.wanted x.2 (yielded ops a.tmps) then x.2.wp P a w K Q else K (a.put x.2.dst undef) w
theorem y6k {S:Specs} {R:Runner} (hN:z9s P) (hS:Zq P S) (hRI:w2a R) (hR:ROk P R) {ops:Array Oper} {x:Bool×Oper} {cx:Ctx} {st st':St} (hcx:cx.floor≤st.next) (h:y0q P S R ops cx x st=some st'):
  v9j P ops cx x st st':=by
 unfold y0q at h;split at h
 ·cases h
 ·rename_i st1 hw;obtain ⟨w1,w2,w3⟩:=z0b hw;obtain ⟨v,stm,hp,eK,hinv,hstay,hlift,hfoot,halloc,hdo⟩:=x6v hN hS hRI hR (by rw [w2];exact hcx) h;obtain ⟨p1,p2,p3,p4⟩:=Kn hp;have hput: ∀d,x.2.dst=some d→st'.tmp d=v:=fun d hd=>by
   rcases p4 with ⟨e,_⟩ | ⟨d',e,_,he⟩
   ·rw [hd] at e;cases e
   ·rw [hd] at e;obtain rfl:=Option.some.inj e;show T.get .undef st'.env d=v;rw [he,T.get_set,if_pos rfl]
  have hi1:Wp cx.floor st st1:=Wp.same w1 w2 fun ho=>(w3 ho).1;have hi2:Wp cx.floor stm st':=Wp.same p1 p2 fun ho=>by rw [←p3];exact ho
  refine ⟨(hi1.trans hinv).trans hi2,fun hk=> ?_,fun hl hk b hb=> ?_,fun ho hk b hb hn=> ?_,fun hk hg=> ?_,fun d hd=> ?_,fun ho t ht=> ?_,fun ho ρ a w ev hsz hev hgr hr eG K Q hK=> ?_,fun ho hk ρ a w ev mem next hsz hev hgr hr eG hag K Q hK=> ?_⟩
  ·obtain ⟨s1,s2⟩:=hstay hk;exact ⟨p1.trans (s1.trans w1),p2.trans (s2.trans w2)⟩
  ·rw [p1,hlift hl hk b (by rw [w2];exact hb),w1]
  ·have ho1:st1.ob=true:=hinv.ob (by rw [←p3];exact ho);have fD:st1.eval=st.eval:=by
    funext y
    cases y with
    | tmp t=>exact (w3 ho1).2 t
    | _=>rfl
   rw [p1,hfoot hk b (by rw [w2];exact hb) (by rw [fD];exact hn),w1]
  ·obtain ⟨e1,t,z,e2,e3,e4⟩:=halloc hk;have hst:st1=st:=by obtain ⟨st0,hw0,_,_,_,hw1⟩:=Qc hw;rw [hw1 (.inl hk)];unfold y0l at hw0;rw [hg] at hw0;simp only [Option.some.injEq,Prod.mk.injEq] at hw0;exact hw0.2.symm
   subst hst;exact ⟨t,z,e2,e3,by rw [p1,e4],by rw [p2,e4],fun d hd=>by rw [hput d hd,e1]⟩
  ·rcases p4 with ⟨e,_⟩ | ⟨d',e,hlt,_⟩
   ·rw [hd] at e;cases e
   ·rw [hd] at e;obtain rfl:=Option.some.inj e;exact hlt
  ·have ho1:st1.ob=true:=hinv.ob (by rw [←p3];exact ho);rw [←(w3 ho1).2 t];show T.get .undef st'.env t=T.get .undef st1.env t;rcases p4 with ⟨_,he⟩ | ⟨d,e,_,he⟩
   ·rw [he,eK]
   ·rw [he,eK,T.get_set,if_neg (by intro htd;subst htd;exact ht e)]
  ·have ho1:st1.ob=true:=hinv.ob (by rw [←p3];exact ho);have fD:=(w3 ho1).2;have hev': ∀y,st1.eval y=st.eval y:=fun y=>by cases y <;> first | rfl | exact fD _
   rw [Qw hw ho1 hsz hgr,if_pos rfl];refine ((hdo ho).does ρ a w ev (fun y hy=>by rw [hev' y];exact hev y hy) hr (by rw [w1,w2];exact eG)).wp fun ρ' u w' hpost=> ?_;have he:=hpost.ev;rw [w1,w2] at he;exact hK ρ' u w' (fun d hd=>by rw [hput d hd];exact hpost.val) (by rw [p1,p2];exact hpost.rel) (by rw [p1,p2];exact he)
  ·have ho1:st1.ob=true:=hinv.ob (by rw [←p3];exact ho);have fD:=(w3 ho1).2;have hev': ∀y,st1.eval y=st.eval y:=fun y=>by cases y <;> first | rfl | exact fD _
   rw [Qw hw ho1 hsz hgr,if_pos rfl];obtain ⟨u,eI,hu⟩:=(hdo ho).calm hk ρ a w ev mem next (fun y hy=>by rw [hev' y];exact hev y hy) hr eG (fun t y b ab q1 q2 q3=>hag t y b ab q1 q2 (by rw [←w1];exact q3))
   unfold Oper.wp;rw [eI];exact hK u fun d hd=>by rw [hput d hd];exact hu
 ·rename_i st1 hw;obtain ⟨w1,w2,w3⟩:=z0b hw;obtain ⟨p1,p2,p3,p4⟩:=Kn h;have hput: ∀d,x.2.dst=some d→st'.tmp d=.tup []:=fun d hd=>by
   rcases p4 with ⟨e,_⟩ | ⟨d',e,_,he⟩
   ·rw [hd] at e;cases e
   ·rw [hd] at e;obtain rfl:=Option.some.inj e;show T.get .undef st'.env d=.tup [];rw [he,T.get_set,if_pos rfl]
  refine ⟨Wp.same (p1.trans w1) (p2.trans w2) fun ho=>(w3 (by rw [←p3];exact ho)).1,fun _=>⟨p1.trans w1,p2.trans w2⟩,fun _ _ b _=>by rw [p1,w1],fun _ _ b _ _=>by rw [p1,w1],fun hk hg=> ?_,fun d hd=> ?_,fun ho t ht=> ?_,fun ho ρ a w ev hsz hev hgr hr eG K Q hK=> ?_,fun ho hk ρ a w ev mem next hsz hev hgr hr eG hag K Q hK=> ?_⟩
  ·obtain ⟨st0,hw0,_⟩:=Qc hw;unfold y0l at hw0;rw [hg] at hw0;simp at hw0
  ·rcases p4 with ⟨e,_⟩ | ⟨d',e,hlt,_⟩
   ·rw [hd] at e;cases e
   ·rw [hd] at e;obtain rfl:=Option.some.inj e;exact hlt
  ·rw [←(w3 (by rw [←p3];exact ho)).2 t];show T.get .undef st'.env t=T.get .undef st1.env t;rcases p4 with ⟨_,he⟩ | ⟨d,e,_,he⟩
   ·rw [he]
   ·rw [he,T.get_set,if_neg (by intro htd;subst htd;exact ht e)]
  ·have ho1:st1.ob=true:=by rw [←p3];exact ho
   rw [Qw hw ho1 hsz hgr,if_neg (by simp)];refine hK ρ undef w (fun d hd=>by rw [hput d hd];exact .tup [] #[] rfl fun i h1 _=>by simp at h1) ?_ ?_
   ·rw [p1,p2,w1,w2];exact eG
   ·rw [p1,p2,w1,w2];exact Ev.refl _ _ _ _ _ eG.dom
  ·have ho1:st1.ob=true:=by rw [←p3];exact ho
   rw [Qw hw ho1 hsz hgr,if_neg (by simp)];exact hK undef fun d hd=>by rw [hput d hd];exact .tup [] #[] rfl fun i h1 _=>by simp at h1
def Fin (D:List Deferred) (ρ:Rho) (cx:Ctx) (st st':St) (w:World):Exit→Act→World→Prop:=fun e a' w'=>
 e=.normal ∧a'.defers=D∧ ∃ρ',Wq ρ' st'.env cx.n a'.tmps∧Rel ρ' st'.mem st'.next w'∧Ev ρ ρ' cx.floor st.mem st.next st'.mem st'.next w w'
end
end Go.Am
namespace Go.Am
section
variable {ops:Array Oper}
def z8k (ops:Array Oper) (S:Nat→Bool):Prop:= ∀j o,ops[j]? =some o→S j=true→ ∀e∈o.after.toList,Region.binds .any e=true→S e.on=true
def x1p (S:Nat→Bool) (o:Oper):Prop:= ∀e∈o.after.toList,Region.binds .any e=true→S e.on=true
def y0p (ops:Array Oper) (i:Nat) (o:Oper):Prop:= ∀S,z8k ops S→x1p S o→S i=true
theorem x3q (acc:List Nat) (i:Nat): ∀(es:List Edge) (s:Nat),(es.foldl (fun s e=>bif Region.binds .any e then s||| (2 ^ e.on)||| acc.getD e.on 0 else s) s).testBit i=true→
  s.testBit i=true∨ ∃e∈es,Region.binds .any e=true∧(e.on=i∨(acc.getD e.on 0).testBit i=true)
 | [],s,h=>.inl h
 | e::es,s,h=>by
  simp only [List.foldl_cons] at h;rcases x3q acc i es _ h with h | ⟨e',he',h1,h2⟩
  ·cases hb:Region.binds .any e with
   | false=>rw [hb] at h;exact .inl h
   | true=>
    rw [hb,cond_true,Nat.testBit_or,Nat.testBit_or,Bool.or_eq_true,Bool.or_eq_true] at h;rcases h with (h | h) | h
    ·exact .inl h
    ·rw [Nat.testBit_two_pow] at h;exact .inr ⟨e,by simp,hb,.inl (by simpa using h)⟩
    ·exact .inr ⟨e,by simp,hb,.inr h⟩
  ·exact .inr ⟨e',by simp [he'],h1,h2⟩
theorem x4d (fS: ∀(j:Nat) o,ops[j]? =some o→ ∀e∈o.after.toList,Region.binds .any e=true→e.on<j): ∀(l:List Oper) (acc:List Nat),acc.length+l.length=ops.size→(∀k,l[k]? =ops[acc.length+k]?)→
  (∀k o,k<acc.length→ops[k]? =some o→ ∀i,(acc.getD k 0).testBit i=true→i<k∧y0p ops i o)→
  ∀k o,ops[k]? =some o→ ∀i,((v2i l acc).getD k 0).testBit i=true→i<k∧y0p ops i o
 | [],acc,eH,_,fW,k,o,ho,i,h=>by have hk:k<ops.size:=(Array.getElem?_eq_some_iff.1 ho).1;simp at eH;exact fW k o (by omega) ho i h
 | x::l,acc,eH,hl,fW,k,o,ho,i,h=>by
  unfold v2i at h;refine x4d fS l (acc++[x.after.toList.foldl (fun s e=>bif Region.binds .any e then s||| (2 ^ e.on)||| acc.getD e.on 0 else s) 0]) (by simp at eH ⊢;omega) (fun k=>by
   have:=hl (k+1)
   simpa [Nat.add_assoc,Nat.add_comm 1 k] using this) (fun k' o' hk' ho' i' hi'=> ?_) k o ho i h
  by_cases hlt:k'<acc.length
  ·refine fW k' o' hlt ho' i' ?_;rw [List.getD,List.getElem?_append_left hlt] at hi';exact hi'
  ·have hk2:k'=acc.length:=by simp at hk';omega
   subst hk2;have hx:ops[acc.length]? =some x:=by simpa using (hl 0).symm
   rw [hx] at ho';obtain rfl:=Option.some.inj ho';have hg:(acc++[x.after.toList.foldl (fun s e=>bif Region.binds .any e then s||| (2 ^ e.on)||| acc.getD e.on 0 else s) 0]).getD acc.length 0=x.after.toList.foldl (fun s e=>bif Region.binds .any e then s||| (2 ^ e.on)||| acc.getD e.on 0 else s) 0:=by simp [List.getD]
   rw [hg] at hi';rcases x3q acc i' _ _ hi' with h0 | ⟨e,he,hb,h1⟩
   ·simp at h0
   ·have hlt':=fS _ _ hx e he hb;rcases h1 with rfl | h1
    ·exact ⟨hlt',fun S _ hr=>hr e he hb⟩
    ·have ho2:ops[e.on]? =some (ops[e.on]'(by simp at eH;omega)):=(by simp);obtain ⟨q1,q2⟩:=fW e.on _ hlt' ho2 i' h1;exact ⟨by omega,fun S hc hr=>q2 S hc fun e' he' hb'=>hc e.on _ ho2 (hr e he hb) e' he' hb'⟩
structure v3d (ops:Array Oper):Prop where
 ord: ∀(j:Nat) o,ops[j]? =some o→ ∀e∈o.after.toList,Region.binds .any e=true→e.on<j
 guard: ∀(j:Nat) o,ops[j]? =some o→Yg o.op=.alloc →o.guard=none
 bits: ∀(j:Nat) o,ops[j]? =some o→ ∀i,((v2i ops.toList []).getD j 0).testBit i=true→i<j∧y0p ops i o
 pair: ∀(i j:Nat) p o,i<j→ops[i]? =some p→ops[j]? =some o→y0p ops i o∨(p.apart ops o=true∧x7f (Yg p.op) (Yg o.op)=true∧(Yg o.op=.read →z8z ops i=true)∧(Yg p.op=.read →z8z ops j=true))
 dst: ∀(i j:Nat) p o d,i<j→ops[i]? =some p→ops[j]? =some o→p.dst=some d→o.dst≠some d
 alloc: ∀(i j:Nat) p o,i<j→ops[i]? =some p→ops[j]? =some o→Yg o.op=.alloc →p.apart ops o=true
theorem z6h (h:x3v ops=true):v3d ops:=by
 have hj: ∀(j:Nat) o,ops[j]? =some o→(o.after.toList.all (fun e=> !Region.binds .any e||Nat.ble (e.on+1) j)=true∧(!(Yg o.op == .alloc)||o.guard.isNone)=true)∧ ∀(i:Nat) p,i<j→ops[i]? =some p→x2q ops i j p o=true:=by intro j o ho;have hlt:j<ops.size:=(Array.getElem?_eq_some_iff.1 ho).1;have:=List.all_eq_true.1 h j (List.mem_range.2 hlt);rw [ho] at this;simp only [Bool.and_eq_true] at this;refine ⟨this.1,fun i p hi hp=> ?_⟩;have:=List.all_eq_true.1 this.2 i (List.mem_range.2 hi);rwa [hp] at this
 have ord: ∀(j:Nat) o,ops[j]? =some o→ ∀e∈o.after.toList,Region.binds .any e=true→e.on<j:=by intro j o ho e he hb;have:=List.all_eq_true.1 (hj j o ho).1.1 e he;rw [hb] at this;exact Nat.le_of_ble_eq_true (by simpa using this)
 have bits:=x4d ord ops.toList [] (by simp) (fun k=>by simp) (fun k o hk=>by simp at hk);refine ⟨ord,fun j o ho hk=> ?_,fun j o ho i hb=>bits j o ho i hb,fun i j p o hij hp ho=> ?_,fun i j p o d hij hp ho hd=> ?_,fun i j p o hij hp ho hk=> ?_⟩
 ·have:=(hj j o ho).1.2;rw [hk] at this
  simpa using this
 ·have hpo:=(hj j o ho).2 i p hij hp;unfold x2q at hpo;simp only [Bool.and_eq_true,Bool.or_eq_true] at hpo;cases hb:((v2i ops.toList []).getD j 0).testBit i with
  | true=>exact .inl (bits j o ho i hb).2
  | false=>
   right;rcases hpo.1.1 with h1 | ⟨h1,h2⟩
   ·rw [hb] at h1;cases h1
   ·have hi:i<ops.size:=(Array.getElem?_eq_some_iff.1 hp).1;have hjl:j<ops.size:=(Array.getElem?_eq_some_iff.1 ho).1;refine ⟨h1,h2,fun hr=> ?_,fun hr=> ?_⟩
    ·unfold z8z;rw [List.any_eq_true];refine ⟨j,List.mem_range.2 hjl,?_⟩;rw [ho,Option.any_some,hr,hb];have:Nat.ble (i+1) j=true:=Nat.ble_eq_true_of_le hij;rw [this];simp
    ·unfold z8z;rw [List.any_eq_true];refine ⟨i,List.mem_range.2 hi,?_⟩;rw [hp,Option.any_some,hr,hb];have:Nat.ble (i+1) j=true:=Nat.ble_eq_true_of_le hij;rw [this];simp
 ·have hpo:=(hj j o ho).2 i p hij hp;unfold x2q at hpo;simp only [Bool.and_eq_true] at hpo;have:=hpo.1.2;rw [hd] at this;intro e;rw [e] at this;simp at this
 ·have hpo:=(hj j o ho).2 i p hij hp;unfold x2q at hpo;simp only [Bool.and_eq_true] at hpo;have:=hpo.2;rw [hk] at this
  simpa using this
theorem Uc {i:Nat} {o:Oper} (ho:ops[i]? =some o):isAlloc ops i=true↔Yg o.op=.alloc :=by unfold isAlloc;rw [ho,Option.any_some];simp
theorem z8b (i:Nat):i∈Yb ops↔i<ops.size:=by unfold Yb;simp only [List.mem_append,List.mem_filter,List.mem_range];cases isAlloc ops i <;> simp
theorem Xz :(Yb ops).length =ops.size:=by
 unfold Yb;rw [List.length_append,←List.countP_eq_length_filter,←List.countP_eq_length_filter];have:=List.length_eq_countP_add_countP (isAlloc ops) (l:=List.range ops.size);simp only [List.length_range] at this;have e:(fun i=> !isAlloc ops i)=(fun i=>decide (¬isAlloc ops i=true)):=by funext i;cases isAlloc ops i <;> rfl
 rw [e];omega
def Ord (ops:Array Oper) (i j:Nat):Prop:=(isAlloc ops i=true∧isAlloc ops j=false)∨(isAlloc ops i=isAlloc ops j∧i<j)
theorem z8a :(Yb ops).Pairwise (Ord ops):=by
 unfold Yb;rw [List.pairwise_append];have hr:(List.range ops.size).Pairwise (· < ·):=List.pairwise_lt_range;refine ⟨?_,?_,?_⟩
 ·refine ((hr.filter _).imp_of_mem fun {a b} ha hb h=> ?_);have h1:=(List.mem_filter.1 ha).2;have h2:=(List.mem_filter.1 hb).2;exact .inr ⟨h1.trans h2.symm,h⟩
 ·refine ((hr.filter _).imp_of_mem fun {a b} ha hb h=> ?_);have h1:=(List.mem_filter.1 ha).2;have h2:=(List.mem_filter.1 hb).2;refine .inr ⟨?_,h⟩;cases e1:isAlloc ops a <;> cases e2:isAlloc ops b <;> simp_all
 ·intro a ha b hb;have h1:=(List.mem_filter.1 ha).2;have h2:=(List.mem_filter.1 hb).2;exact .inl ⟨h1,by simpa using h2⟩
theorem x0v {k1 k2:Nat} (h:k1<k2) (h2:k2<(Yb ops).length):Ord ops ((Yb ops)[k1]'(by omega)) (Yb ops)[k2]:=
 List.pairwise_iff_getElem.1 z8a k1 k2 (by omega) h2 h
end
theorem x2s {P:Program} {S:Specs} {R:Runner} {ops:Array Oper} {cx:Ctx}: ∀(l:List (Bool×Oper)) (st st':St),y7r P S R ops cx l st=some st'→
  ∃f:Nat→St,f 0=st∧f l.length=st'∧ ∀(k:Nat) (h:k<l.length),y0q P S R ops cx l[k] (f k)=some (f (k+1))
 | [],st,st',h=>by have h:some st=some st':=h;obtain rfl:=Option.some.inj h;exact ⟨fun _=>st,rfl,rfl,fun k h=>by simp at h⟩
 | x::l,st,st',h=>by
  rw [z6a,Option.bind_eq_some_iff] at h;obtain ⟨st1,h1,h2⟩:=h;obtain ⟨f,f0,fn,fs⟩:=x2s l st1 st' h2;refine ⟨fun k=>match k with | 0=>st | k+1=>f k,rfl,fn,fun k hk=> ?_⟩;cases k with
  | zero=>simpa [f0] using h1
  | succ k=>simpa using fs k (by simpa using hk)
def x4t (ops:Array Oper) (x y:Foot):Prop:=clash x.2.1 y.2.2=true∨clash x.2.2 y.2.1=true→ordered ops x.1 y.1=true
theorem x7u {ops:Array Oper} {x y:Foot} (h:w1q ops x y=true):x4t ops x y:=by
 intro hc;unfold w1q at h;simp only [Bool.or_eq_true,Bool.not_eq_true',Bool.or_eq_false_iff] at h;rcases h with ⟨h1,h2⟩ | h
 ·rcases hc with hc | hc
  ·rw [h1] at hc;cases hc
  ·rw [h2] at hc;cases hc
 ·exact h
theorem z2d {P:Program} {S:Specs} {R:Runner} {ops:Array Oper} {cx:Ctx}: ∀(l:List (Nat×Bool×Oper)) (acc:List Foot) (st st':St),z8x P S R ops cx l acc st=some st'→
  ∃f:Nat→St,f 0=st∧f l.length=st'∧(∀(k:Nat) (h:k<l.length),y0q P S R ops cx l[k].2 (f k)=some (f (k+1)))∧
   (∀(k:Nat) (h:k<l.length),∀y∈acc,x4t ops (z5m l[k] (f k).eval) y)∧
   ∀(q k:Nat) (hq:q<k) (h:k<l.length),x4t ops (z5m l[k] (f k).eval) (z5m (l[q]'(by omega)) (f q).eval)
 | [],acc,st,st',h=>by have h:some st=some st':=h;obtain rfl:=Option.some.inj h;exact ⟨fun _=>st,rfl,rfl,fun k h=>by simp at h,fun k h=>by simp at h,fun q k _ h=>by simp at h⟩
 | x ::l,acc,st,st',h=>by
  have h:(bif acc.all (w1q ops (z5m x st.eval)) then
    match y0q P S R ops cx x.2 st with
    | some st'=>z8x P S R ops cx l (z5m x st.eval::acc) st'
    | none=>none
   else none)=some st':=h
  obtain ⟨fW,h⟩:=Yk h;split at h
  ·rename_i st1 h1;obtain ⟨f,f0,fn,fs,fa,fp⟩:=z2d l _ st1 st' h;refine ⟨fun k=>match k with | 0=>st | k+1=>f k,rfl,fn,fun k hk=> ?_,fun k hk y hy=> ?_,fun q k hqk hk=> ?_⟩
   ·cases k with
    | zero=>simpa [f0] using h1
    | succ k=>simpa using fs k (by simpa using hk)
   ·cases k with
    | zero=>exact x7u (List.all_eq_true.1 fW y hy)
    | succ k=>simpa using fa k (by simpa using hk) y (by simp [hy])
   ·cases k with
    | zero=>omega
    | succ k=>
     cases q with
     | zero=>simpa using fa k (by simpa using hk) (z5m x st.eval) (by simp)
     | succ q=>simpa using fp q k (by omega) (by simpa using hk)
  ·cases h
end Go.Am
namespace Go.Am
theorem z2j (p q:Nat→Bool) (i:Nat): ∀(n:Nat),(∀k,k≠i→q k=p k)→p i=true→q i=false→i<n→(List.range n).countP q+1=(List.range n).countP p
 | 0,_,_,_,h=>absurd h (Nat.not_lt_zero _)
 | n+1,hpq,hp,hq,h=>by
  rw [List.range_succ,List.countP_append,List.countP_append];by_cases hi:i<n
  ·have:=z2j p q i n hpq hp hq hi;have e:q n=p n:=hpq n (by omega);simp only [List.countP_cons,List.countP_nil,e];omega
  ·have hin:i=n:=by omega
   subst hin;have e:(List.range i).countP q=(List.range i).countP p:=List.countP_congr fun k hk=>by rw [hpq k (by have:=List.mem_range.1 hk;omega)]
   simp [e,hp,hq]
section
variable {P:Program}
theorem Rel.unborn {ρ:Rho} {mem:Mem} {next:Nat} {w:World} (h:Rel ρ mem next w) (o:Option ABlk):Rel ρ (We mem next o) (next+1) w:=by
 have ne: ∀b l,ρ b=some l→b≠next:=fun b l e=>by have:=h.dom b l e;omega
 refine ⟨fun b l e=>by have:=h.dom b l e;omega,fun b b' l l' e e' he hs hs'=> ?_,fun b l ab e hm=> ?_,h.old,fun b l e hs=>h.sep b l e (by rwa [Zv _ _ (ne b l e)] at hs),h.real,fun b hb=>by rw [Zv _ _ (by omega)];exact h.bd b (by omega),fun j l e=>Nat.lt_succ_of_lt (h.ldom j l e)⟩
 ·rw [Zv _ _ (ne b l e)] at hs;rw [Zv _ _ (ne b' l' e')] at hs';exact h.inj b b' l l' e e' he hs hs'
 ·rw [Zv _ _ (ne b l e)] at hm;exact h.blk b l ab e hm
theorem Rel.birth {ρ:Rho} {mem:Mem} {next:Nat} {w:World} (h:Rel ρ mem next w) {b:Nat} {cs:List AVal} {ty:TypeId} (hb:b<next) (hn:ρ b=none) (hm:Xv mem b=some ⟨cs,ty,none⟩) {vs:Array Value} (el:TypeId) (hv:Uz ρ cs vs):
  Rel (Vr ρ b ⟨w.heap.size,0,cs.length,vs.size⟩) mem next {w with heap:=w.heap.push (.cells vs el)}:=by
 have hle:=Qn (l:=⟨w.heap.size,0,cs.length,vs.size⟩) hn;have eQ: ∀c l,Vr ρ b ⟨w.heap.size,0,cs.length,vs.size⟩ c=some l→(c=b∧l=⟨w.heap.size,0,cs.length,vs.size⟩)∨(c≠b∧ρ c=some l):=fun c l e=>by
  rw [Ux] at e;by_cases hc:c=b
  ·rw [if_pos hc] at e;exact .inl ⟨hc,(Option.some.inj e).symm⟩
  ·rw [if_neg hc] at e;exact .inr ⟨hc,e⟩
 refine ⟨fun c l e=> ?_,fun c c' l l' e e' hbl hs hs'=> ?_,fun c l ab e hc=> ?_,fun k o e=> ?_,fun c l e=> ?_,fun c l e=> ?_,h.bd,h.ldom⟩
 ·rcases eQ c l e with ⟨rfl,_⟩ | ⟨_,e⟩
  ·exact hb
  ·exact h.dom c l e
 ·rcases eQ c l e with ⟨hc,hl⟩ | ⟨hc,e2⟩ <;> rcases eQ c' l' e' with ⟨hc',hl'⟩ | ⟨hc',e2'⟩
  ·rw [hc,hc']
  ·have:=h.real c' l' e2';rw [hl] at hbl;simp at hbl;omega
  ·have:=h.real c l e2;rw [hl'] at hbl;simp at hbl;omega
  ·exact h.inj c c' l l' e2 e2' hbl hs hs'
 ·rcases eQ c l e with ⟨rfl,rfl⟩ | ⟨_,e⟩
  ·rw [hm] at hc;obtain rfl:=Option.some.inj hc;have h1:=hv.1;refine ⟨rfl,by simp only;omega,(fun A e=>by cases e),vs,el,by simp,by simp,fun i hi=> ?_⟩;have h2:i<vs.size:=by simp only at hi;omega
   exact ⟨vs[i],by simp [Array.getElem?_eq_getElem h2],(hv.2 i hi h2).mono hle⟩
  ·refine (h.blk c l ab e hc).world hle ?_;have:=h.real c l e;simp [Array.getElem?_push,Nat.ne_of_lt this]
 ·have hk:=h.old k o e;have:k<w.heap.size:=(Array.getElem?_eq_some_iff.1 hk).1;simp only [Array.getElem?_push,Nat.ne_of_lt this,if_false];exact hk
 ·intro hs;rcases eQ c l e with ⟨rfl,rfl⟩ | ⟨_,e⟩
  ·exact h.hold _ (Nat.le_refl _)
  ·exact h.sep c l e hs
 ·rcases eQ c l e with ⟨rfl,rfl⟩ | ⟨_,e⟩
  ·simp
  ·have:=h.real c l e;simp;omega
structure Reg (P:Program) (ops:Array Oper) (cx:Ctx) (st:St) (f:Nat→St):Prop where
 chk:v3d ops
 f0:f 0=st
 hcx:cx.floor≤st.next
 ob: ∀k,k≤ops.size→(f k).ob =true
 step: ∀(k:Nat) (h:k<(Yb ops).length),v9j P ops cx (z8z ops (Yb ops)[k],ops.getD (Yb ops)[k] default) (f k) (f (k+1))
 foot: ∀(q k:Nat) (hq:q<k) (h:k<(Yb ops).length),x4t ops (z5m ((Yb ops)[k],z8z ops (Yb ops)[k],ops.getD (Yb ops)[k] default) (f k).eval) (z5m ((Yb ops)[q],z8z ops (Yb ops)[q],ops.getD (Yb ops)[q] default) (f q).eval)
variable {ops:Array Oper} {cx:Ctx} {st:St} {f:Nat→St}
def at_ (ops:Array Oper) (k:Nat):Nat:=(Yb ops).getD k ops.size
theorem j1j {k:Nat} (h:k<ops.size):at_ ops k<ops.size:=by
 have hl:k<(Yb ops).length :=by rw [Xz];exact h
 have:at_ ops k=(Yb ops)[k]:=by simp [at_,hl]
 rw [this];exact (z8b _).1 (List.getElem_mem hl)
theorem z0a {k1 k2:Nat} (h:k1<k2) (h2:k2<ops.size):Ord ops (at_ ops k1) (at_ ops k2):=by
 have hl2:k2<(Yb ops).length :=by rw [Xz];exact h2
 have hl1:k1<(Yb ops).length :=by omega
 have:=x0v h hl2
 simpa [at_,hl1,hl2] using this
theorem j1i {i:Nat} (h:i<ops.size): ∃k,k<ops.size∧at_ ops k=i:=by obtain ⟨k,hk,e⟩:=List.getElem_of_mem ((z8b (ops:=ops) i).2 h);exact ⟨k,by rw [Xz] at hk;exact hk,by simp [at_,hk,e]⟩
theorem Reg.step' (g:Reg P ops cx st f) {k:Nat} (h:k<ops.size): ∃o,ops[at_ ops k]? =some o∧v9j P ops cx (z8z ops (at_ ops k),o) (f k) (f (k+1)):=by
 have hl:k<(Yb ops).length :=by rw [Xz];exact h
 have e:at_ ops k=(Yb ops)[k]:=by simp [at_,hl]
 have hlt:=j1j h;refine ⟨ops[at_ ops k],by simp [hlt],?_⟩;have:=g.step k hl;rw [←e] at this;have hd:ops.getD (at_ ops k) default=ops[at_ ops k]:=by simp [hlt]
 rw [hd] at this;exact this
theorem Reg.foot' (g:Reg P ops cx st f) {q k:Nat} (hq:q<k) (h:k<ops.size) {o x:Oper} (ho:ops[at_ ops k]? =some o) (hx:ops[at_ ops q]? =some x):
  x4t ops (at_ ops k,w8t o.op (f k).eval,x1v o.op (f k).eval) (at_ ops q,w8t x.op (f q).eval,x1v x.op (f q).eval):=by
 have hl:k<(Yb ops).length :=by rw [Xz];exact h
 have hl2:q<(Yb ops).length :=by omega
 have e:at_ ops k=(Yb ops)[k]:=by simp [at_,hl]
 have e2:at_ ops q=(Yb ops)[q]:=by simp [at_,hl2]
 have:=g.foot q k hq hl;rw [←e,←e2] at this;have hd:ops.getD (at_ ops k) default=o:=by simp [ho]
 have hd2:ops.getD (at_ ops q) default=x:=by simp [hx]
 rw [hd,hd2] at this;exact this
theorem Reg.next_le (g:Reg P ops cx st f): ∀{a b:Nat},a≤b→b≤ops.size→(f a).next ≤(f b).next :=by
 intro a b hab hb
 induction b with
 | zero => have:a=0:=by omega
           subst this;exact Nat.le_refl _
 | succ b ih=>
  by_cases e:a=b+1
  ·subst e;exact Nat.le_refl _
  ·obtain ⟨o,_,s⟩:=g.step' (k:=b) (by omega);exact Nat.le_trans (ih (by omega) (by omega)) s.inv.nxt
theorem Reg.bd (g:Reg P ops cx st f) (h0: ∀b,st.next≤b→Xv st.mem b=none): ∀{k:Nat},k≤ops.size→ ∀b,(f k).next ≤b→Xv (f k).mem b=none:=by
 intro k hk
 induction k with
 | zero=>rw [g.f0];exact h0
 | succ k ih=>obtain ⟨o,_,s⟩:=g.step' (k:=k) (by omega);exact s.inv.bd (ih (by omega))
theorem Reg.slot_stays (g:Reg P ops cx st f) {t:Tmp}: ∀{a b:Nat},a≤b→b≤ops.size→(∀k o,a≤k→k<b→ops[at_ ops k]? =some o→o.dst≠some t)→(f b).tmp t=(f a).tmp t:=by
 intro a b hab hb hno
 induction b with
 | zero => have:a=0:=by omega
           subst this;rfl
 | succ b ih=>
  by_cases e:a=b+1
  ·subst e;rfl
  ·obtain ⟨o,ho,s⟩:=g.step' (k:=b) (by omega);rw [s.other (g.ob _ hb) t (hno b o (by omega) (by omega) ho)];exact ih (by omega) (by omega) fun k o h1 h2=>hno k o h1 (by omega)
def y0k (o:Oper):Prop:=Yg o.op=.chain ∨Yg o.op=.call
theorem w4c (o:Oper):Yg o.op=.pure ∨Yg o.op=.read ∨Yg o.op=.alloc ∨y0k o:=by unfold y0k;cases Yg o.op <;> simp
theorem Reg.mem_stays (g:Reg P ops cx st f): ∀{a b:Nat},a≤b→b≤ops.size→(∀k o,a≤k→k<b→ops[at_ ops k]? =some o→Yg o.op=.pure ∨Yg o.op=.read)→(f b).mem =(f a).mem ∧(f b).next =(f a).next :=by
 intro a b hab hb hno
 induction b with
 | zero => have:a=0:=by omega
           subst this;exact ⟨rfl,rfl⟩
 | succ b ih=>
  by_cases e:a=b+1
  ·subst e;exact ⟨rfl,rfl⟩
  ·obtain ⟨o,ho,s⟩:=g.step' (k:=b) (by omega);obtain ⟨e1,e2⟩:=s.stay (hno b o (by omega) (by omega) ho);obtain ⟨e3,e4⟩:=ih (by omega) (by omega) fun k o h1 h2=>hno k o h1 (by omega);exact ⟨e1.trans e3,e2.trans e4⟩
theorem Reg.blk_stays (g:Reg P ops cx st f) {x:Nat}: ∀{a b:Nat},a≤b→b≤ops.size→x<(f a).next →
  (∀k o,a≤k→k<b→ops[at_ ops k]? =some o→Yg o.op=.pure ∨Yg o.op=.read ∨(Yg o.op=.call ∧z8z ops (at_ ops k)=true)∨(Yg o.op=.chain ∧x1v o.op (f k).eval ≠some x))→Xv (f b).mem x=Xv (f a).mem x:=by
 intro a b hab hb hx hno
 induction b with
 | zero => have:a=0:=by omega
           subst this;rfl
 | succ b ih=>
  by_cases e:a=b+1
  ·subst e;rfl
  ·obtain ⟨o,ho,s⟩:=g.step' (k:=b) (by omega);have ih:=ih (by omega) (by omega) fun k o h1 h2=>hno k o h1 (by omega);rw [←ih];rcases hno b o (by omega) (by omega) ho with h1 | h1 | ⟨h1,h2⟩ | ⟨h1,h2⟩
   ·rw [(s.stay (.inl h1)).1]
   ·rw [(s.stay (.inr h1)).1]
   ·exact s.lift h2 h1 x (Nat.lt_of_lt_of_le hx (g.next_le (by omega) (by omega)))
   ·exact s.foot (g.ob _ hb) h1 x (Nat.lt_of_lt_of_le hx (g.next_le (by omega) (by omega))) h2
structure Inv (P:Program) (D:List Deferred) (ops:Array Oper) (cx:Ctx) (st:St) (f:Nat→St) (ρ0:Rho) (w0:World) (S:Nat→Bool) (p:Nat) (ρ:Rho) (a:Act) (w:World):Prop where
 closed:z8k ops S
 defers:a.defers=D
 tsz:a.tmps.size=cx.n
 done: ∀k o d,k<ops.size→ops[at_ ops k]? =some o→S (at_ ops k)=true→o.dst=some d→Ym ρ ((f (k+1)).tmp d) (a.tmps.getD d undef)
 undone: ∀t,(∀i o,ops[i]? =some o→S i=true→o.dst≠some t)→Ym ρ (st.tmp t) (a.tmps.getD t undef)
 ple:p≤ops.size
 past: ∀k o,k<ops.size→ops[at_ ops k]? =some o→Yg o.op=.alloc →k<p
 chain: ∀k o,k<ops.size→ops[at_ ops k]? =some o→y0k o→(S (at_ ops k)=true↔k<p)
 rel:Rel ρ (f p).mem (f p).next w
 ev:Ev ρ0 ρ cx.floor st.mem st.next (f p).mem (f p).next w0 w
 allocs: ∀k o t z,k<ops.size→ops[at_ ops k]? =some o→o.op=.alloc t→Ko P t=some z→S (at_ ops k)=false→st.next≤(f k).next ∧(f k).next <(f p).next ∧ρ (f k).next =none∧Xv (f p).mem (f k).next =some ⟨z,t,none⟩
theorem y3y {o:Oper} {t:Tmp} (h:Operand.tmp t∈o.op.operands):t∈o.looksAt ops:=by unfold Oper.looksAt;rw [List.mem_append];left;rw [List.mem_filterMap];exact ⟨.tmp t,Array.mem_toList_iff.2 h,rfl⟩
theorem x0k {o:Oper} {d:Tmp} (h:Qx ops o=some d):d∈o.looksAt ops:=by
 unfold Oper.looksAt;rw [List.mem_append];right;unfold Qx at h;cases hg:o.guard with
 | none=>rw [hg] at h;cases h
 | some g=>obtain ⟨j,want⟩:=g;rw [hg] at h;simp only [Option.bind_some] at h;simp [h]
theorem x8y (g:Reg P ops cx st f) {i:Nat} {o:Oper} (ho:ops[i]? =some o) (hk:Yg o.op=.alloc):o.looksAt ops=[]:=by
 unfold Oper.looksAt;rw [g.chk.guard i o ho hk];obtain ⟨dst,op,type,pos,after,guard⟩:=o;simp only at hk ⊢;cases op with
 | alloc t=>rfl
 | call c=>
  obtain ⟨callee,args,argTypes⟩:=c;cases callee with
  | builtin b=>cases b <;> cases hk
  | value f=>cases hk
  | invoke r m=>cases hk
 | _=>cases hk
section
variable {D:List Deferred} {ρ0:Rho} {w0:World} {S:Nat→Bool} {p:Nat} {ρ:Rho} {a:Act} {w:World}
theorem x0w (g:Reg P ops cx st f) {i j:Nat} {x y:Oper} {d:Tmp} (hi:ops[i]? =some x) (hj:ops[j]? =some y) (hx:x.dst=some d) (hy:y.dst=some d):i=j:=by
 rcases Nat.lt_trichotomy i j with h | h | h
 ·exact absurd hy (g.chk.dst i j x y d h hi hj hx)
 ·exact h
 ·exact absurd hx (g.chk.dst j i y x d h hj hi hy)
theorem Inv.looks (g:Reg P ops cx st f) (I:Inv P D ops cx st f ρ0 w0 S p ρ a w) {k:Nat} {o:Oper} (hk:k<ops.size) (ho:ops[at_ ops k]? =some o) (hns:S (at_ ops k)=false) (eP:x1p S o) {t:Tmp} (ht:t∈o.looksAt ops):
  Ym ρ ((f k).tmp t) (a.tmps.getD t undef):=by
 by_cases hw: ∃i x,ops[i]? =some x∧S i=true∧x.dst=some t
 ·obtain ⟨i,x,hx,hs,hd⟩:=hw;have hil:i<ops.size:=(Array.getElem?_eq_some_iff.1 hx).1;obtain ⟨k',hk',rfl⟩:=j1i hil;have hne:k'≠k:=fun e=>by rw [e,hns] at hs;cases hs
  have hlt:k'<k:=by
   rcases Nat.lt_or_ge k' k with h | h
   ·exact h
   ·exfalso;have hkk:k<k':=(by omega);rcases Nat.lt_trichotomy (at_ ops k) (at_ ops k') with hij | hij | hij
    ·rcases g.chk.pair _ _ _ _ hij ho hx with hf | ⟨hap,_⟩
     ·have:=hf S I.closed (fun e he hb=>I.closed _ _ hx hs e he hb);rw [hns] at this;cases this
     ·obtain ⟨_,_,h3⟩:=Oper.apart_spec hap;exact h3 t hd ht
    ·rw [hij,hs] at hns;cases hns
    ·rcases z0a hkk hk' with ⟨h1,_⟩ | ⟨_,h2⟩
     ·rw [x8y g ho ((Uc ho).1 h1)] at ht;cases ht
     ·omega
  have hst:(f k).tmp t=(f (k'+1)).tmp t:=g.slot_stays (by omega) (by omega) fun q y h1 h2 hy hyd=>by
   have:=x0w g hx hy hd hyd;have e:at_ ops k'=at_ ops q:=this;rcases z0a (ops:=ops) (k1:=k') (k2:=q) (by omega) (by omega) with ⟨h1,h2⟩ | ⟨_,h2⟩
   ·rw [e,h2] at h1;cases h1
   ·omega
  rw [hst];exact I.done k' x t hk' hx hs hd
 ·have hno: ∀i x,ops[i]? =some x→S i=true→x.dst≠some t:=fun i x hx hs hd=>hw ⟨i,x,hx,hs,hd⟩;have hst:(f k).tmp t=(f 0).tmp t:=g.slot_stays (Nat.zero_le _) (by omega) fun q y _ h2 hy hyd=>by
   have hqs:S (at_ ops q)=false:=by
    cases e:S (at_ ops q) with
    | false=>rfl
    | true=>exact absurd hyd (hno _ y hy e)
   rcases Nat.lt_trichotomy (at_ ops q) (at_ ops k) with hij | hij | hij
   ·rcases g.chk.pair _ _ _ _ hij hy ho with hf | ⟨hap,_⟩
    ·have:=hf S I.closed eP;rw [hqs] at this;cases this
    ·obtain ⟨h1,_,_⟩:=Oper.apart_spec hap;exact h1 t hyd ht
   ·rcases z0a (ops:=ops) h2 hk with ⟨h1,h3⟩ | ⟨_,h3⟩
    ·rw [hij,h3] at h1;cases h1
    ·omega
   ·rcases z0a (ops:=ops) h2 hk with ⟨h1,_⟩ | ⟨_,h3⟩
    ·have hap:=g.chk.alloc _ _ _ _ hij ho hy ((Uc hy).1 h1);obtain ⟨_,_,h3⟩:=Oper.apart_spec hap;exact h3 t hyd ht
    ·omega
  rw [hst,g.f0];exact I.undone t hno
theorem Inv.operands (g:Reg P ops cx st f) (I:Inv P D ops cx st f ρ0 w0 S p ρ a w) {k:Nat} {o:Oper} (hk:k<ops.size) (ho:ops[at_ ops k]? =some o) (hns:S (at_ ops k)=false) (eP:x1p S o):z5r ρ (f k).eval a.eval o.op:=by
 intro x hx;cases x with
 | tmp t=>exact I.looks g hk ho hns eP (y3y hx)
 | const v=>exact w9n v
 | global g=>exact .undef _
 | func f=>exact .fn f [] #[] rfl fun i h1 _=>by simp at h1
theorem Inv.slots (g:Reg P ops cx st f) (I:Inv P D ops cx st f ρ0 w0 S p ρ a w) {k:Nat} {o:Oper} (hk:k<ops.size) (ho:ops[at_ ops k]? =some o) (hns:S (at_ ops k)=false) {ρ':Rho} (hle:ρ.le ρ') {u:Value}
  (eX: ∀d,o.dst=some d→Ym ρ' ((f (k+1)).tmp d) u) {S':Nat→Bool} (hS: ∀i,S' i=(S i||i == at_ ops k)):
  (∀k' x d,k'<ops.size→ops[at_ ops k']? =some x→S' (at_ ops k')=true→x.dst=some d→Ym ρ' ((f (k'+1)).tmp d) ((a.put o.dst u).tmps.getD d undef))∧
  (∀t,(∀i x,ops[i]? =some x→S' i=true→x.dst≠some t)→Ym ρ' (st.tmp t) ((a.put o.dst u).tmps.getD t undef)):=by
 have other: ∀t,o.dst≠some t→(a.put o.dst u).tmps.getD t undef=a.tmps.getD t undef:=fun t ht=>by
  cases hd:o.dst with
  | none=>rfl
  | some d=>have hne:d≠t:=fun e=>ht (by rw [hd,e]);simp [Act.put,Array.getElem?_setIfInBounds_ne hne]
 obtain ⟨_,ho',s⟩:=g.step' hk;rw [ho] at ho';obtain rfl:=Option.some.inj ho';refine ⟨fun k' x d hk' hx hs hd=> ?_,fun t hno=> ?_⟩
 ·by_cases hod:o.dst=some d
  ·have e:=x0w g ho hx hod hd;have hkk:k'=k:=by
    rcases Nat.lt_trichotomy k' k with h | h | h
    ·rcases z0a (ops:=ops) h hk with ⟨h1,h3⟩ | ⟨_,h3⟩
     ·rw [←e,h3] at h1;cases h1
     ·omega
    ·exact h
    ·rcases z0a (ops:=ops) h hk' with ⟨h1,h3⟩ | ⟨_,h3⟩
     ·rw [e,h3] at h1;cases h1
     ·omega
   subst hkk;have hlt:d<a.tmps.size:=by rw [I.tsz];exact s.slot d hod
   have:(a.put o.dst u).tmps.getD d undef=u:=by simp [Act.put,hod,hlt]
   rw [this];exact eX d hod
  ·rw [other d hod];have hne:at_ ops k'≠at_ ops k:=fun e=>by rw [e,ho] at hx;obtain rfl:=Option.some.inj hx;exact hod hd
   have hs':S (at_ ops k')=true:=by
    rw [hS] at hs
    simpa [hne] using hs
   exact (I.done k' x d hk' hx hs' hd).mono hle
 ·have hod:o.dst≠some t:=hno _ o ho (by rw [hS];simp);rw [other t hod];exact (I.undone t fun i x hx hs=>hno i x hx (by rw [hS,hs];rfl)).mono hle
theorem Inv.closes (I:Inv P D ops cx st f ρ0 w0 S p ρ a w) {i:Nat} {o:Oper} (ho:ops[i]? =some o) (eP:x1p S o) {S':Nat→Bool} (hS: ∀j,S' j=(S j||j == i)):z8k ops S':=by
 intro j x hx hs e he hb;rw [hS] at hs ⊢;by_cases hj:j=i
 ·subst hj;rw [ho] at hx;obtain rfl:=Option.some.inj hx;rw [eP e he hb];rfl
 ·have:S j=true:=by simpa [hj] using hs
  rw [I.closed j x hx this e he hb];rfl
theorem Inv.between (g:Reg P ops cx st f) (I:Inv P D ops cx st f ρ0 w0 S p ρ a w) {k:Nat} {o:Oper} (hk:k<ops.size) (ho:ops[at_ ops k]? =some o) (hns:S (at_ ops k)=false) (eP:x1p S o) (gJ:Yg o.op=.read) {b:Nat} (hb:w8t o.op (f k).eval =some b):
  (∀q x,p≤q→q<k→ops[at_ ops q]? =some x→Yg x.op=.pure ∨Yg x.op=.read ∨(Yg x.op=.call ∧z8z ops (at_ ops q)=true)∨(Yg x.op=.chain ∧x1v x.op (f q).eval ≠some b))∧
  (∀q x,k≤q→q<p→ops[at_ ops q]? =some x→Yg x.op=.pure ∨Yg x.op=.read ∨(Yg x.op=.call ∧z8z ops (at_ ops q)=true)∨(Yg x.op=.chain ∧x1v x.op (f q).eval ≠some b)):=by
 have nal:isAlloc ops (at_ ops k)=false:=by
  cases e:isAlloc ops (at_ ops k) with
  | false=>rfl
  | true=>have:=(Uc ho).1 e;rw [gJ] at this;cases this
 constructor
 ·intro q x h1 h2 hx;rcases w4c x with h | h | h | h
  ·exact .inl h
  ·exact .inr (.inl h)
  ·have:=I.past q x (by omega) hx h;omega
  ·have hqs:S (at_ ops q)=false:=by
    cases e:S (at_ ops q) with
    | false=>rfl
    | true=>have:=(I.chain q x (by omega) hx h).1 e;omega
   have hlt:at_ ops q<at_ ops k:=by
    rcases z0a (ops:=ops) h2 hk with ⟨h3,_⟩ | ⟨_,h3⟩
    ·have:=I.past q x (by omega) hx ((Uc hx).1 h3);omega
    ·exact h3
   rcases g.chk.pair _ _ _ _ hlt hx ho with hf | ⟨_,hkd,hl,_⟩
   ·have:=hf S I.closed eP;rw [hqs] at this;cases this
   ·rcases h with h | h
    ·refine .inr (.inr (.inr ⟨h,fun hw=> ?_⟩));have:=g.foot' h2 hk ho hx (.inl (by rw [hb,hw];exact Nat.beq_refl b));unfold ordered at this;simp only [Bool.or_eq_true] at this;rcases this with this | this
     ·have:=(g.chk.bits _ _ hx _ this).1;omega
     ·have:=(g.chk.bits _ _ ho _ this).2 S I.closed eP;rw [hqs] at this;cases this
    ·exact .inr (.inr (.inl ⟨h,hl gJ⟩))
 ·intro q x h1 h2 hx;have hp:=I.ple;rcases w4c x with h | h | h | h
  ·exact .inl h
  ·exact .inr (.inl h)
  ·by_cases hqk:q=k
   ·subst hqk;rw [ho] at hx;obtain rfl:=Option.some.inj hx;rw [gJ] at h;cases h
   ·rcases z0a (ops:=ops) (k1:=k) (k2:=q) (by omega) (by omega) with ⟨h3,_⟩ | ⟨h3,_⟩
    ·rw [nal] at h3;cases h3
    ·rw [nal,(Uc hx).2 h] at h3;cases h3
  ·have hqs:S (at_ ops q)=true:=(I.chain q x (by omega) hx h).2 h2;have hne:q≠k:=fun e=>by rw [e,hns] at hqs;cases hqs
   have hlt:at_ ops k<at_ ops q:=by
    rcases z0a (ops:=ops) (k1:=k) (k2:=q) (by omega) (by omega) with ⟨h3,_⟩ | ⟨_,h3⟩
    ·rw [nal] at h3;cases h3
    ·exact h3
   rcases g.chk.pair _ _ _ _ hlt ho hx with hf | ⟨_,hkd,_,hl⟩
   ·have:=hf S I.closed fun e he hb=>I.closed _ _ hx hqs e he hb;rw [hns] at this;cases this
   ·rcases h with h | h
    ·refine .inr (.inr (.inr ⟨h,fun hw=> ?_⟩));have:=g.foot' (q:=k) (k:=q) (by omega) (by omega) hx ho (.inr (by rw [hb,hw];exact Nat.beq_refl b));unfold ordered at this;simp only [Bool.or_eq_true] at this;rcases this with this | this
     ·have:=(g.chk.bits _ _ ho _ this).1;omega
     ·have:=(g.chk.bits _ _ hx _ this).2 S I.closed fun e he hb=>I.closed _ _ hx hqs e he hb;rw [hns] at this;cases this
    ·exact .inr (.inr (.inl ⟨h,hl gJ⟩))
theorem Inv.next_chain (g:Reg P ops cx st f) (I:Inv P D ops cx st f ρ0 w0 S p ρ a w) {k:Nat} {o:Oper} (hk:k<ops.size) (ho:ops[at_ ops k]? =some o) (hns:S (at_ ops k)=false) (eP:x1p S o) (hch:y0k o):
  p≤k∧(∀q x,q<ops.size→ops[at_ ops q]? =some x→y0k x→(S (at_ ops q)=true↔q<k)):=by
 have nal:isAlloc ops (at_ ops k)=false:=by
  cases e:isAlloc ops (at_ ops k) with
  | false=>rfl
  | true=>have:=(Uc ho).1 e;rcases hch with h | h <;> rw [h] at this <;> cases this
 have key: ∀q x,q<ops.size→ops[at_ ops q]? =some x→y0k x→(S (at_ ops q)=true↔q<k):=by
  intro q x hq hx hxc;have nalx:isAlloc ops (at_ ops q)=false:=by
   cases e:isAlloc ops (at_ ops q) with
   | false=>rfl
   | true=>have:=(Uc hx).1 e;rcases hxc with h | h <;> rw [h] at this <;> cases this
  have nok: ∀(x y:Oper),y0k x→y0k y→x7f (Yg x.op) (Yg y.op)=false:=by
   intro x y hx hy;rcases hx with h | h <;> rcases hy with h' | h' <;> rw [h,h'] <;> rfl
  constructor
  ·intro hs;rcases Nat.lt_trichotomy q k with h | h | h
   ·exact h
   ·subst h;rw [hns] at hs;cases hs
   ·exfalso;have hlt:at_ ops k<at_ ops q:=by
     rcases z0a (ops:=ops) h hq with ⟨h3,_⟩ | ⟨_,h3⟩
     ·rw [nal] at h3;cases h3
     ·exact h3
    rcases g.chk.pair _ _ _ _ hlt ho hx with hf | ⟨_,hkd,_⟩
    ·have:=hf S I.closed fun e he hb=>I.closed _ _ hx hs e he hb;rw [hns] at this;cases this
    ·rw [nok o x hch hxc] at hkd;cases hkd
  ·intro h;have hlt:at_ ops q<at_ ops k:=by
    rcases z0a (ops:=ops) h hk with ⟨h3,_⟩ | ⟨_,h3⟩
    ·rw [nalx] at h3;cases h3
    ·exact h3
   rcases g.chk.pair _ _ _ _ hlt hx ho with hf | ⟨_,hkd,_⟩
   ·exact hf S I.closed eP
   ·rw [nok x o hxc hch] at hkd;cases hkd
 refine ⟨?_,key⟩;rcases Nat.lt_or_ge k p with h | h
 ·have:=(I.chain k o hk ho hch).2 h;rw [hns] at this;cases this
 ·exact h
end
end
end Go.Am
namespace Go.Am
section
variable {P:Program} {D:List Deferred} {ops:Array Oper} {cx:Ctx} {st:St} {f:Nat→St}
theorem v2k {ρ:Rho} {o:Oper} {t:TypeId} {z:List AVal} (ho:o.op=.alloc t) (hz:Ko P t=some z) (a:Act) (w:World):
  ∃vs:Array Value,Uz ρ z vs∧(execOp a.eval o).run P w=.ok (.value (.pointer (some ⟨w.heap.size,0,none⟩))) {w with heap:=w.heap.push (.cells vs t)}:=by
 obtain ⟨dst,op,type,pos,after,guard⟩:=o;simp only at ho;subst ho;obtain ⟨_,zv,_,_,hzr,hzv⟩:=Wr (ρ:=ρ) hz;exact ⟨zv.cells,hzr,by simp [execOp,Instr.alloc,hzv,newVar,newRow]⟩
theorem v8f (g:Reg P ops cx st f) {ρ0:Rho} {w0:World} (hout: ∀i,cx.n≤i→T.get .undef st.env i=.undef) (hbd: ∀b,st.next≤b→Xv st.mem b=none): ∀(fuel:Nat) (listed:Array Bool) (p:Nat) (ρ:Rho) (a:Act) (w:World),listed.size=ops.size→
  (List.range ops.size).countP (fun i=> !listed.getD i false)=fuel→Inv P D ops cx st f ρ0 w0 (fun i=>listed.getD i false) p ρ a w→wpAny P .any ops (Fin D ρ0 cx st (f ops.size) w0) fuel listed a w:=by
 have someReady: ∀listed:Array Bool,listed.size=ops.size→ ∀i,i<ops.size→listed.getD i false=false→ ∃j,j∈Region.ready .any ops listed:=by
  intro listed hsz i
  induction i using Nat.strongRecOn with
  | _ i ih=>
   intro hi hl;by_cases h: ∃e∈(ops[i]).after.toList,Region.binds .any e=true∧listed.getD e.on false=false
   ·obtain ⟨e,he,hb,hf⟩:=h;have hlt:=g.chk.ord i ops[i] (by simp [hi]) e he hb;exact ih e.on hlt (by omega) hf
   ·refine ⟨i,mem_ready.2 ⟨?_,ops[i],by simp [hi],fun e he hb=> ?_⟩⟩
    ·have:i<listed.size:=by omega
     simpa [this] using hl
    ·cases hf:listed.getD e.on false with
     | true=>rfl
     | false=>exact absurd ⟨e,Array.mem_toList_iff.2 he,hb,hf⟩ h
 intro fuel
 induction fuel with
 | zero=>
  intro listed p ρ a w hsz hcnt I;have fJ: ∀i,i<ops.size→listed.getD i false=true:=by
   intro i hi;have:=List.countP_eq_zero.1 hcnt i (List.mem_range.2 hi)
   simpa using this
  refine ⟨?_,rfl,I.defers,ρ,?_,?_,?_⟩
  ·cases hr:Region.ready .any ops listed with
   | nil=>rfl
   | cons j r=>
    have hj:j∈Region.ready .any ops listed:=by rw [hr];simp
    obtain ⟨h1,o,ho,_⟩:=mem_ready.1 hj;have hjl:j<ops.size:=(Array.getElem?_eq_some_iff.1 ho).1;have:=fJ j hjl;have hj2:j<listed.size:=(by omega);simp [hj2] at h1 this;rw [h1] at this;cases this
  ·refine ⟨I.tsz,fun t=> ?_,fun i hi=> ?_⟩
   ·by_cases hw: ∃(i:Nat) (x:Oper),ops[i]? =some x∧x.dst=some t
    ·obtain ⟨i,x,hx,hd⟩:=hw;have hil:i<ops.size:=(Array.getElem?_eq_some_iff.1 hx).1;obtain ⟨k,hk,rfl⟩:=j1i hil;have hst:(f ops.size).tmp t=(f (k+1)).tmp t:=g.slot_stays (by omega) (Nat.le_refl _) fun q y h1 h2 hy hyd=>by
      have e:at_ ops k=at_ ops q:=x0w g hx hy hd hyd;rcases z0a (ops:=ops) (k1:=k) (k2:=q) (by omega) h2 with ⟨h3,h4⟩ | ⟨_,h4⟩
      ·rw [e,h4] at h3;cases h3
      ·omega
     show Ym ρ ((f ops.size).tmp t) _;rw [hst];exact I.done k x t hk hx (fJ _ hil) hd
    ·have hst:(f ops.size).tmp t=(f 0).tmp t:=g.slot_stays (Nat.zero_le _) (Nat.le_refl _) fun q y _ h2 hy hyd=>hw ⟨_,y,hy,hyd⟩;show Ym ρ ((f ops.size).tmp t) _;rw [hst,g.f0];exact I.undone t fun i x hx _ hd=>hw ⟨i,x,hx,hd⟩
   ·have hst:(f ops.size).tmp i=(f 0).tmp i:=g.slot_stays (Nat.zero_le _) (Nat.le_refl _) fun q y _ h2 hy hyd=>by obtain ⟨o,ho,s⟩:=g.step' h2;rw [hy] at ho;obtain rfl:=Option.some.inj ho;exact absurd hi (Nat.not_le_of_lt (s.slot i hyd))
    show (f ops.size).tmp i=_;rw [hst,g.f0];exact hout i hi
  ·obtain ⟨e1,e2⟩:=g.mem_stays I.ple (Nat.le_refl _) fun k o h1 h2 ho=>by
    rcases w4c o with h | h | h | h
    ·exact .inl h
    ·exact .inr h
    ·have:=I.past k o h2 ho h;omega
    ·have:=(I.chain k o h2 ho h).1 (fJ _ (j1j h2));omega
   rw [e1,e2];exact I.rel
  ·obtain ⟨e1,e2⟩:=g.mem_stays I.ple (Nat.le_refl _) fun k o h1 h2 ho=>by
    rcases w4c o with h | h | h | h
    ·exact .inl h
    ·exact .inr h
    ·have:=I.past k o h2 ho h;omega
    ·have:=(I.chain k o h2 ho h).1 (fJ _ (j1j h2));omega
   rw [e1,e2];exact I.ev
 | succ fuel ih=>
  intro listed p ρ a w hsz hcnt I;refine ⟨fun hr=> ?_,fun i hi=> ?_⟩
  ·exfalso;have: ∃i,i<ops.size∧listed.getD i false=false:=by have hpos:0<(List.range ops.size).countP (fun i=> !listed.getD i false):=(by omega);obtain ⟨i,hi,h⟩:=List.countP_pos_iff.1 hpos;exact ⟨i,List.mem_range.1 hi,by simpa using h⟩
   obtain ⟨i,hi,h⟩:=this;obtain ⟨j,hj⟩:=someReady listed hsz i hi h;rw [hr] at hj;cases hj
  ·obtain ⟨hun,o,ho,hafter⟩:=mem_ready.1 hi;have hil:i<ops.size:=(Array.getElem?_eq_some_iff.1 ho).1;obtain ⟨k,hk,rfl⟩:=j1i hil;have hil2:at_ ops k<listed.size:=by omega
   have hns:listed.getD (at_ ops k) false=false:=by simpa [hil2] using hun
   have eP:x1p (fun i=>listed.getD i false) o:=fun e he hb=>hafter e (Array.mem_toList_iff.1 he) hb;have hS: ∀j,(listed.setIfInBounds (at_ ops k) true).getD j false=(listed.getD j false||j == at_ ops k):=by
    intro j;by_cases hj:j=at_ ops k
    ·subst hj;simp [hil2]
    ·have:(j == at_ ops k)=false:=(by simpa using hj);simp [this,Array.getElem?_setIfInBounds_ne (Ne.symm hj)]
   have hcnt':(List.range ops.size).countP (fun i=> !(listed.setIfInBounds (at_ ops k) true).getD i false)=fuel:=by
    have:=z2j (fun i=> !listed.getD i false) (fun i=> !(listed.setIfInBounds (at_ ops k) true).getD i false) (at_ ops k) ops.size (fun j hj=>by
     rw [hS];simp [hj]) (by simp only [hns];rfl) (by rw [hS];simp) hil
    omega
   have gD:(listed.setIfInBounds (at_ ops k) true).size =ops.size:=by simpa using hsz
   have gL:=I.closes ho eP hS;obtain ⟨o',ho',s⟩:=g.step' hk;rw [ho] at ho';obtain rfl:=Option.some.inj ho';have hops:=I.operands g hk ho hns eP;have hguard: ∀d,Qx ops o=some d→Ym ρ ((f k).tmp d) (a.tmps.getD d undef):=fun d hd=>I.looks g hk ho hns eP (x0k hd);have hob:=g.ob (k+1) (by omega);have finish: ∀{q:Prop},(if Region.wanted o (yielded ops a.tmps) then o.wp P a w (wpAny P .any ops (Fin D ρ0 cx st (f ops.size) w0) fuel (listed.setIfInBounds (at_ ops k) true)) (Fin D ρ0 cx st (f ops.size) w0) else wpAny P .any ops (Fin D ρ0 cx st (f ops.size) w0) fuel (listed.setIfInBounds (at_ ops k) true) (a.put o.dst undef) w)→
     wpOp P ops (Fin D ρ0 cx st (f ops.size) w0) (at_ ops k) (wpAny P .any ops (Fin D ρ0 cx st (f ops.size) w0) fuel (listed.setIfInBounds (at_ ops k) true)) a w:=by
    intro _ h;unfold wpOp;rw [ho];simp only;split
    ·rename_i hw;rw [if_pos hw] at h;exact .inl h
    ·rename_i hw;rw [if_neg hw] at h;exact h
   have calm:(Yg o.op=.pure ∨Yg o.op=.read)→wpOp P ops (Fin D ρ0 cx st (f ops.size) w0) (at_ ops k) (wpAny P .any ops (Fin D ρ0 cx st (f ops.size) w0) fuel (listed.setIfInBounds (at_ ops k) true)) a w:=by
    intro hkd;refine finish (q:=True) (s.calm hob hkd ρ a w (f k).eval (f p).mem (f p).next I.tsz (fun _ _=>rfl) hguard hops I.rel ?_ _ _ fun u eX=> ?_)
    ·intro t y b ab hop hrd hm;have gJ:Yg o.op=.read :=by rw [hop];rfl
     obtain ⟨b1,b2⟩:=I.between g hk ho hns eP gJ hrd;have hρ: ∃l,ρ b=some l:=by
      have:=hops y (by rw [hop];simp [Op.operands]);rw [hop] at hrd;simp only [w8t] at hrd;generalize a.eval y=uy at this;split at hrd
      ·rename_i hy;rw [hy] at this;obtain rfl:=Option.some.inj hrd;cases this with
       | ptr _ _ l h=>exact ⟨l,h⟩
      ·rename_i hy;rw [hy] at this;obtain rfl:=Option.some.inj hrd;cases this with
       | epa _ _ _ _ l h=>exact ⟨l,h⟩
      ·cases hrd
     obtain ⟨l,hl⟩:=hρ;rcases Nat.le_total p k with hpk | hpk
     ·have:=g.blk_stays (x:=b) hpk (by omega) (I.rel.dom b l hl) b1;rw [←this];exact hm
     ·have hbn:b<(f k).next :=by
       rcases Nat.lt_or_ge b (f k).next with h | h
       ·exact h
       ·rw [g.bd hbd (by omega) b h] at hm;cases hm
      have:=g.blk_stays (x:=b) hpk I.ple hbn b2;rw [this];exact hm
    ·obtain ⟨d1,d2⟩:=I.slots g hk ho hns (Rho.le_refl ρ) eX hS;refine ih _ p ρ _ w gD hcnt' ⟨gL,by rw [Act.put_defers'];exact I.defers,by cases h:o.dst <;> simp [Act.put,I.tsz],d1,d2,I.ple,I.past,fun q x hq hx hc=> ?_,I.rel,I.ev,fun q x t z hq hx hop hz hs=> ?_⟩
     ·have hne:at_ ops q≠at_ ops k:=fun e=>by
       rw [e,ho] at hx;obtain rfl:=Option.some.inj hx;rcases hc with h | h <;> rcases hkd with h' | h' <;> rw [h] at h' <;> cases h'
      rw [hS]
      simpa [hne] using I.chain q x hq hx hc
     ·rw [hS] at hs;simp only [Bool.or_eq_false_iff] at hs;exact I.allocs q x t z hq hx hop hz hs.1
   rcases w4c o with hkd | hkd | hkd | hkd
   ·exact calm (.inl hkd)
   ·exact calm (.inr hkd)
   ·-- a variable is made
    obtain ⟨t,z,hop,hz,_,_,hptr⟩:=s.alloc hkd (g.chk.guard _ o ho hkd);obtain ⟨l1,l2,l3,l4⟩:=I.allocs k o t z hk ho hop hz hns;obtain ⟨vs,hvs,eI⟩:=v2k (P:=P) (ρ:=ρ) hop hz a w;have fF:=I.rel.birth l2 l3 l4 t hvs;refine finish (q:=True) ?_;rw [if_pos (by unfold Region.wanted;rw [g.chk.guard _ o ho hkd])];unfold Oper.wp;rw [eI];have hle:ρ.le (Vr ρ (f k).next ⟨w.heap.size,0,z.length,vs.size⟩):=Qn l3;obtain ⟨d1,d2⟩:=I.slots g hk ho hns hle (u:=.pointer (some ⟨w.heap.size,0,none⟩)) (fun d hd=>by
     rw [hptr d hd];exact .ptr _ 0 ⟨w.heap.size,0,z.length,vs.size⟩ (by simp [Vr])) hS
    have ev':Ev ρ0 (Vr ρ (f k).next ⟨w.heap.size,0,z.length,vs.size⟩) cx.floor st.mem st.next (f p).mem (f p).next w0 {w with heap:=w.heap.push (.cells vs t)}:=by
     have e:=I.ev;refine ⟨Rho.le_trans e.ext hle,fun b hb=> ?_,e.nxt,e.unborn,fun q ob hq hf=> ?_,fun b l hb hl=> ?_,?_,e.os,e.tape,e.output,e.still⟩
     ·rw [←e.new b hb];rw [Ux,if_neg (by omega)]
     ·have:=e.frame q ob hq hf;have hlt:q<w.heap.size:=(Array.getElem?_eq_some_iff.1 this).1;simp only [Array.getElem?_push,Nat.ne_of_lt hlt,if_false];exact this
     ·rw [Ux] at hl;by_cases hbk:b=(f k).next
      ·rw [if_pos hbk] at hl;obtain rfl:=Option.some.inj hl;exact .inl e.size
      ·rw [if_neg hbk] at hl;exact e.fresh b l hb hl
     ·have:=e.size;simp;omega
    refine ih _ p _ _ _ gD hcnt' ⟨gL,by rw [Act.put_defers'];exact I.defers,by cases h:o.dst <;> simp [Act.put,I.tsz],d1,d2,I.ple,I.past,fun q x hq hx hc=> ?_,fF,ev',fun q x t' z' hq hx hop' hz' hs=> ?_⟩
    ·have hne:at_ ops q≠at_ ops k:=fun e=>by
      rw [e,ho] at hx;obtain rfl:=Option.some.inj hx;rcases hc with h | h <;> rw [h] at hkd <;> cases hkd
     rw [hS]
     simpa [hne] using I.chain q x hq hx hc
    ·rw [hS] at hs;simp only [Bool.or_eq_false_iff] at hs;obtain ⟨m1,m2,m3,m4⟩:=I.allocs q x t' z' hq hx hop' hz' hs.1;refine ⟨m1,m2,?_,m4⟩;have hne:(f q).next ≠(f k).next :=by
      have hqk:q≠k:=fun e=>by rw [e] at hs;simp at hs
      have up: ∀q x t z,q<ops.size→ops[at_ ops q]? =some x→x.op=.alloc t→Ko P t=some z→(f (q+1)).next =(f q).next +1:=by
       intro q x t z hq hx hop hz;obtain ⟨x',hx',s'⟩:=g.step' hq;rw [hx] at hx';obtain rfl:=Option.some.inj hx';have hkx:Yg x.op=.alloc :=by rw [hop];rfl
       obtain ⟨_,_,_,_,_,h6,_⟩:=s'.alloc hkx (g.chk.guard _ x hx hkx);exact h6
      rcases Nat.lt_trichotomy q k with h | h | h
      ·have h1:=up q x t' z' hq hx hop' hz';have h2:=g.next_le (a:=q+1) (b:=k) (by omega) (by omega);omega
      ·exact absurd h hqk
      ·have h1:=up k o t z hk ho hop hz;have h2:=g.next_le (a:=k+1) (b:=q) (by omega) (by omega);omega
     rw [Ux];rw [if_neg hne];exact m3
   ·-- the next one that may write
    obtain ⟨hpk,hch⟩:=I.next_chain g hk ho hns eP hkd;obtain ⟨e1,e2⟩:=g.mem_stays hpk (by omega) fun q x h1 h2 hx=>by
     rcases w4c x with h | h | h | h
     ·exact .inl h
     ·exact .inr h
     ·have:=I.past q x (by omega) hx h;omega
     ·have:=(I.chain q x (by omega) hx h).1 ((hch q x (by omega) hx h).2 h2);omega
    have eG:Rel ρ (f k).mem (f k).next w:=by rw [e1,e2];exact I.rel
    refine finish (q:=True) (s.does hob ρ a w (f k).eval I.tsz (fun _ _=>rfl) hguard hops eG _ _ fun ρ' u w' eX fF hev=> ?_);obtain ⟨d1,d2⟩:=I.slots g hk ho hns hev.ext eX hS;rw [e1,e2] at hev;refine ih _ (k+1) ρ' _ w' gD hcnt' ⟨gL,by rw [Act.put_defers'];exact I.defers,by cases h:o.dst <;> simp [Act.put,I.tsz],d1,d2,by omega,fun q x hq hx hc=>by have:=I.past q x hq hx hc;omega,fun q x hq hx hc=> ?_,fF,I.ev.trans hev,fun q x t z hq hx hop hz hs=> ?_⟩
    ·rw [hS];by_cases hqk:q=k
     ·subst hqk;simp
     ·have hne:at_ ops q≠at_ ops k:=fun e=>by
       rcases Nat.lt_or_ge q k with h | h
       ·rcases z0a (ops:=ops) h hk with ⟨h3,h4⟩ | ⟨_,h4⟩
        ·rw [e,h4] at h3;cases h3
        ·omega
       ·rcases z0a (ops:=ops) (k1:=k) (k2:=q) (by omega) hq with ⟨h3,h4⟩ | ⟨_,h4⟩
        ·rw [←e,h4] at h3;cases h3
        ·omega
      have:=hch q x hq hx hc;simp only [beq_eq_false_iff_ne.2 hne,Bool.or_false];rw [this];omega
    ·rw [hS] at hs;simp only [Bool.or_eq_false_iff] at hs;obtain ⟨m1,m2,m3,m4⟩:=I.allocs q x t z hq hx hop hz hs.1;refine ⟨m1,Nat.lt_of_lt_of_le m2 hev.nxt,by rw [hev.new _ m2];exact m3,hev.unborn _ m2 m3 _ _ m4⟩
theorem v0p (g:Reg P ops cx st f) {ρ:Rho} {a:Act} {w:World} (hd:a.defers=D) (eK:Wq ρ st.env cx.n a.tmps) (eG:Rel ρ st.mem st.next w):
  ∃p,Inv P D ops cx st f ρ w (fun i=>(Array.replicate ops.size false).getD i false) p ρ a w:=by
 have hf: ∀i,(Array.replicate ops.size false).getD i false=false:=fun i=>by
  by_cases h:i<ops.size
  ·simp [h]
  ·simp [h]
 have hA: ∃p,p≤ops.size∧ ∀k o,k<ops.size→ops[at_ ops k]? =some o→(Yg o.op=.alloc ↔k<p):=by
  have hmono: ∀k1 k2,k1<k2→k2<ops.size→isAlloc ops (at_ ops k2)=true→isAlloc ops (at_ ops k1)=true:=by
   intro k1 k2 h1 h2 h3;rcases z0a (ops:=ops) h1 h2 with ⟨h,_⟩ | ⟨h,_⟩
   ·exact h
   ·rw [h];exact h3
  have: ∀n,n≤ops.size→ ∃p,p≤n∧ ∀k,k<n→(isAlloc ops (at_ ops k)=true↔k<p):=by
   intro n
   induction n with
   | zero=>intro _;exact ⟨0,Nat.le_refl _,fun k h=>by omega⟩
   | succ n ih=>
    intro hn;obtain ⟨p,hp,hk⟩:=ih (by omega);cases e:isAlloc ops (at_ ops n) with
    | true=>
     refine ⟨n+1,Nat.le_refl _,fun k h=>⟨fun _=>h,fun _=> ?_⟩⟩;by_cases hkn:k=n
     ·rw [hkn];exact e
     ·exact hmono k n (by omega) (by omega) e
    | false=>
     refine ⟨p,by omega,fun k h=> ?_⟩;by_cases hkn:k=n
     ·rw [hkn,e];constructor
      ·intro h;cases h
      ·intro h;omega
     ·exact hk k (by omega)
  obtain ⟨p,hp,hk⟩:=this ops.size (Nat.le_refl _);exact ⟨p,hp,fun k o h ho=>by rw [←Uc ho];exact hk k h⟩
 obtain ⟨p,hp,hpk⟩:=hA;have allocAt: ∀k,k<p→ ∃o t z,ops[at_ ops k]? =some o∧o.op=.alloc t∧Ko P t=some z∧(f (k+1)).mem =We (f k).mem (f k).next (some ⟨z,t,none⟩)∧(f (k+1)).next =(f k).next +1:=by intro k hk;obtain ⟨o,ho,s⟩:=g.step' (k:=k) (by omega);have hkd:=(hpk k o (by omega) ho).2 hk;obtain ⟨t,z,h1,h2,h3,h4,_⟩:=s.alloc hkd (g.chk.guard _ o ho hkd);exact ⟨o,t,z,ho,h1,h2,h3,h4⟩
 have start: ∀k,k≤p→Rel ρ (f k).mem (f k).next w∧Ev ρ ρ cx.floor st.mem st.next (f k).mem (f k).next w w:=by
  intro k
  induction k with
  | zero=>intro _;rw [g.f0];exact ⟨eG,Ev.refl _ _ _ _ _ eG.dom⟩
  | succ k ih=>intro hk;obtain ⟨hr,he⟩:=ih (by omega);obtain ⟨o,t,z,_,_,_,h3,h4⟩:=allocAt k (by omega);rw [h3,h4];refine ⟨hr.unborn _,he.trans ⟨Rho.le_refl _,fun _ _=>rfl,Nat.le_succ _,fun b hb _ cs ty hm=>by rw [Zv _ _ (by omega)];exact hm,fun _ _ h _=>h,fun b l hb hl=>by have:=hr.dom b l hl;omega,Nat.le_refl _,rfl,rfl,rfl,fun _ _=>rfl⟩⟩
 have later: ∀k k',k<k'→k'≤p→(f k).next <(f k').next ∧Xv (f k').mem (f k).next =Xv (f (k+1)).mem (f k).next :=by
  intro k k' hk
  induction k' with
  | zero=>omega
  | succ k' ih=>
   intro hk';obtain ⟨o,t,z,_,_,_,h3,h4⟩:=allocAt k' (by omega);by_cases e:k=k'
   ·subst e;exact ⟨by omega,rfl⟩
   ·obtain ⟨h1,h2⟩:=ih (by omega) (by omega);refine ⟨by omega,?_⟩;rw [h3,Zv _ _ (by omega)];exact h2
 obtain ⟨hrp,hep⟩:=start p (Nat.le_refl _);refine ⟨p,?_,hd,eK.size,?_,?_,hp,?_,?_,hrp,hep,?_⟩
 ·intro j o _ hs;simp only [hf] at hs;cases hs
 ·intro k o d _ _ hs;simp only [hf] at hs;cases hs
 ·intro t _;exact eK.get t
 ·intro k o hk ho hkd;exact (hpk k o hk ho).1 hkd
 ·intro k o hk ho hc;simp only [hf];constructor
  ·intro h;cases h
  ·intro h;have:=(hpk k o hk ho).2 h;rcases hc with h' | h' <;> rw [h'] at this <;> cases this
 ·intro k o t z hk ho hop hz _;have hkp:k<p:=(hpk k o hk ho).1 (by rw [hop];rfl);obtain ⟨o',t',z',ho',hop',hz',h3,h4⟩:=allocAt k hkp;rw [ho] at ho';obtain rfl:=Option.some.inj ho';rw [hop] at hop';obtain rfl:t=t':=by injection hop'
  rw [hz] at hz';obtain rfl:=Option.some.inj hz';obtain ⟨h5,h6⟩:=later k p hkp (Nat.le_refl _);have hge:st.next≤(f k).next :=by have:=g.next_le (a:=0) (b:=k) (Nat.zero_le _) (by omega);rw [g.f0] at this;exact this
  refine ⟨hge,h5,?_,?_⟩
  ·cases e:ρ (f k).next with
   | none=>rfl
   | some l=>have:=eG.dom _ l e;omega
  ·rw [h6,h3,Yf]
theorem z7l {S:Specs} {R:Runner} (hN:z9s P) (hS:Zq P S) (hRI:w2a R) (hR:ROk P R) {st':St} (hcx:cx.floor≤st.next) (fB:x3v ops=true)
  (h:z8x P S R ops cx (z0v ops) [] st=some st') (ho:st'.ob=true) {ρ:Rho} {a:Act} {w:World} (hd:a.defers=D) (eK:Wq ρ st.env cx.n a.tmps) (eG:Rel ρ st.mem st.next w):
  wpAny P .any ops (Fin D ρ cx st st' w) ops.size (Array.replicate ops.size false) a w:=by
 obtain ⟨f,f0,fn,fs,_,fp⟩:=z2d (z0v ops) [] st st' h;have eH:(z0v ops).length =ops.size:=by simp [z0v,Xz]
 rw [eH] at fn;have fE: ∀(k:Nat) (hk:k<(Yb ops).length),cx.floor≤(f k).next →v9j P ops cx (z8z ops (Yb ops)[k],ops.getD (Yb ops)[k] default) (f k) (f (k+1)):=by intro k hk hc;have:=fs k (by rw [eH,←Xz];exact hk);simp only [z0v,List.getElem_map] at this;exact y6k hN hS hRI hR hc this
 have hnx: ∀k,k≤ops.size→cx.floor≤(f k).next :=by
  intro k
  induction k with
  | zero=>intro _;rw [f0];exact hcx
  | succ k ih=>intro hk;have hc:=ih (by omega);exact Nat.le_trans hc (fE k (by rw [Xz];omega) hc).inv.nxt
 have hob: ∀k,k≤ops.size→(f (ops.size - k)).ob =true:=by
  intro k
  induction k with
  | zero=>intro _;rw [Nat.sub_zero,fn];exact ho
  | succ k ih=>
   intro hk;have hk':ops.size - (k+1)<(Yb ops).length :=by rw [Xz];omega
   have s:=fE _ hk' (hnx _ (by omega));refine s.inv.ob ?_;rw [show ops.size - (k+1)+1=ops.size - k by omega];exact ih (by omega)
 have g:Reg P ops cx st f:=⟨z6h fB,f0,hcx,fun k hk=>by
  have:=hob (ops.size - k) (by omega);rwa [show ops.size - (ops.size - k)=k by omega] at this,fun k hk=>fE k hk (hnx k (by rw [Xz] at hk;omega)),fun q k hq hk=>by
   have:=fp q k hq (by rw [eH,←Xz];exact hk)
   simpa only [z0v,List.getElem_map] using this⟩
 obtain ⟨p,I⟩:=v0p g hd eK eG;have:=v8f g eK.out eG.bd ops.size (Array.replicate ops.size false) p ρ a w (by simp) (by
  rw [List.countP_eq_length.2]
  ·simp
  ·intro i hi;have:=List.mem_range.1 hi;simp [this]) I
 rwa [fn] at this
theorem y7q {S:Specs} {R:Runner} (hRI:w2a R): ∀(l:List (Bool×Oper)) (st st':St),y7r P S R ops cx l st=some st'→Wp cx.floor st st'
 | [],st,st',h=>by have h:some st=some st':=h;obtain rfl:=Option.some.inj h;exact Wp.refl _ _
 | x::l,st,st',h=>by
  rw [z6a,Option.bind_eq_some_iff] at h;obtain ⟨st1,h1,h2⟩:=h;refine Wp.trans ?_ (y7q hRI l st1 st' h2);unfold y0q at h1;split at h1
  ·cases h1
  ·rename_i st2 hw;obtain ⟨w1,w2,w3⟩:=z0b hw;refine (Wp.same w1 w2 fun h=>(w3 h).1).trans ?_;unfold y0c at h1;split at h1
   ·split at h1
    ·rename_i st3 ho;obtain ⟨_,e2,e3,e4⟩:=Xs ho;obtain ⟨p1,p2,p3,_⟩:=Kn h1;exact (Wp.same e2 e3 fun h=>(e4 h).2).trans (Wp.same p1 p2 fun h=>by rw [←p3];exact h)
    ·cases h1
   ·split at h1
    ·rename_i v st3 he;obtain ⟨p1,p2,p3,_⟩:=Kn h1;exact (y5l hRI he).1.trans (Wp.same p1 p2 fun h=>by rw [←p3];exact h)
    ·cases h1
  ·rename_i st2 hw;obtain ⟨w1,w2,w3⟩:=z0b hw;obtain ⟨p1,p2,p3,_⟩:=Kn h1;exact (Wp.same w1 w2 fun h=>(w3 h).1).trans (Wp.same p1 p2 fun h=>by rw [←p3];exact h)
theorem y3r {S:Specs} {R:Runner} (hRI:w2a R) (l:List (Nat×Bool×Oper)) (acc:List Foot) (st st':St) (h:z8x P S R ops cx l acc st=some st'):Wp cx.floor st st':=by
 obtain ⟨f,f0,fn,fs,_,_⟩:=z2d l acc st st' h;have: ∀k,k≤l.length→Wp cx.floor st (f k):=by
  intro k
  induction k with
  | zero=>intro _;rw [f0];exact Wp.refl _ _
  | succ k ih=>intro hk;refine (ih (by omega)).trans ?_;have:=fs k (by omega);exact y7q hRI [l[k].2] (f k) (f (k+1)) (by rw [z6a,this];rfl)
 rw [←fn];exact this _ (Nat.le_refl _)
end
end Go.Am
namespace Go.Am
section
variable {P:Program}
def RMono (R:Runner):Prop:= ∀cx todo st st',R cx todo st=some st'→st'.ob=true→st.ob=true
theorem w2a.mono {R:Runner} (h:w2a R):RMono R:=fun cx todo st st' hr=>(h cx todo st st' hr).ob
theorem x2j {H:Old} {w:World} (hH: ∀k o,H k=some o→w.heap[k]? =some o):Rel (z3n H) .leaf 0 w:=
 ⟨(fun b l h=>by cases h),(fun b b' l l' h=>by cases h),(fun b l ab h=>by cases h),hH,(fun b l h=>by cases h),(fun b l h=>by cases h),(fun b _=>rfl),(fun j l h=>by cases h)⟩
structure Out (H:Old) (w:World) (ρ:Rho) (v:AVal) (u:Value) (w':World):Prop where
 val:Ym ρ v u
 le: ∀k o,H k=some o→ρ.fz k=some o
 old: ∀k o,ρ.fz k=some o→w'.heap[k]? =some o
 same: ∀k,k<w.heap.size→ρ.fz k=H k
 below:RowKit.Below w.heap.size w w'
theorem out_of {H:Old} {w w':World} {ρ:Rho} {v:AVal} {u:Value} {mem:Mem} {next floor:Nat} (hv:Ym ρ v u) (hr:Rel ρ mem next w') (hev:Ev (z3n H) ρ floor .leaf 0 mem next w w'):Out H w ρ v u w':=
 ⟨hv,hev.ext.2.1,hr.old,hev.still,hev.os,hev.tape,hev.output,hev.size,fun k hk=>by
  have:w.heap[k]? =some w.heap[k]:=by simp [hk]
  rw [this];exact hev.frame k _ this fun b l hl=>by cases hl⟩
def noSpecs :Specs:=fun _=>none
theorem Za :Zq P noSpecs:=fun f F h=>by cases h
end
end Go.Am
namespace Go.Am
abbrev RegOps :=Array Oper×Nat×List Oper
structure AFr where
 cx:Ctx
 ro:Option RegOps
 todo:List Item
 rnd:Option Nat
 rs:List ResultVar
 env:T AVal
structure ALoop where
 st:LoopState
 pend:Option Code
 n:Nat
 env:T AVal
 params:List Tmp
 assign:Code
 body:Code
abbrev Loops :=T (Option ALoop)
def y1z (m:Loops) (b:Nat):Option ALoop:=T.get none m b
def w5o (m:Loops) (b:Nat) (o:Option ALoop):Loops:=T.set none m b o
structure Cfg where
 cx:Ctx
 ro:Option RegOps
 todo:List Item
 rnd:Option Nat
 rs:List ResultVar
 st:St
 cs:List AFr
 lps:Loops
def popS (v:AVal) (st:St) (lps:Loops):List AFr→Option Cfg
 | ⟨cx,some (ops,i,o::l),todo,rnd,rs,env⟩::cs=>match (st.withEnv env).put cx o.dst v with
  | some st'=>some ⟨cx,some (ops,i+1,l),todo,rnd,rs,st',cs,lps⟩
  | none=>none
 | ⟨cx,none,.inRangeFunc j::k,rnd,rs,env⟩::cs=>some ⟨cx,none,.endRangeFunc j::k,rnd,rs,st.withEnv env,cs,lps⟩
 | _=>none
def x3h :Option Code→LoopState
 | none=>.ready
 | some _=>.done
def rndOk (lps:Loops):Option Nat→Bool
 | none=>true
 | some j=>(y1z lps j).isSome
def x3d (P:Program) (rnd:Option Nat) (rs:List ResultVar) (st:St) (cs:List AFr) (lps:Loops) (jump:Option Code):Option Cfg:=
 match rnd with
 | none=>match Kx P st rs with
  | some vs=>popS (Qr vs) st lps cs
  | none=>none
 | some j=>match y1z lps j with
  | some ⟨_,_,n,env,params,assign,body⟩=>
   popS (.bool jump.isNone) st (w5o lps j (some ⟨x3h jump,jump,n,env,params,assign,body⟩)) cs
  | none=>none
def y9q (n:Nat):List Tmp→List AVal→T AVal→Option (T AVal)
 | [],[],env=>some env
 | t::ts,a::l,env=>bif Nat.ble (t+1) n then y9q n ts l (T.set .undef env t a) else none
 | _,_,_=>none
def y8t (P:Program) (f:FuncId) (args:List AVal) (fr:AFr) (st:St) (cs:List AFr) (lps:Loops):Option Cfg:=
 match P.funcs[f]? with
 | some fn=>match fn.body with
  | some body=>some ⟨⟨Nat.max fn.ntmps args.length,fr.cx.floor,fr.cx.sym⟩,none,[.code body],none,fn.results.toList,st.withEnv (z9i args 0 .leaf),fr::cs,lps⟩
  | none=>none
 | none=>none
def u1a (j:Nat) (args:List AVal) (fr:AFr) (st:St) (cs:List AFr) (lps:Loops):Option Cfg:=
 match y1z lps j with
 | some ⟨_,_,n,env,params,assign,body⟩=>match y9q n params args env with
  | some env'=>some ⟨⟨n,fr.cx.floor,fr.cx.sym⟩,none,[.code assign,.beginRound,.code body],some j,[],st.withEnv env',fr::cs,lps⟩
  | none=>none
 | none=>none
def callee (S:Specs) (st:St) (op:Op):Option ((FuncId×List AVal) ⊕ (Nat×List AVal)):=
 match op with
 | .call {callee:=.value f,args,argTypes:=_}=>match st.eval f with
  | .fn g caps=>match S g with
   | some _=>none
   | none=>some (.inl (g,args.toList.map st.eval++caps))
  | .fnb g first=>match S g with
   | some _=>none
   | none=>some (.inl (g,first++args.toList.map st.eval))
  | .yld j=>some (.inr (j,args.toList.map st.eval))
  | _=>none
 | _=>none
def w6g (P:Program) (S:Specs) (Rc:Runner) (cx:Ctx) (ops:Array Oper) (i:Nat) (o:Oper) (l:List Oper) (todo:List Item) (rnd:Option Nat) (rs:List ResultVar) (st:St) (cs:List AFr) (lps:Loops):Option Cfg:=
 match z1a ops o cx st with
 | some (true,st)=>match callee S st o.op with
  | some (.inl (g,args))=>y8t P g args ⟨cx,some (ops,i,o::l),todo,rnd,rs,st.env⟩ st cs lps
  | some (.inr (j,args))=>u1a j args ⟨cx,some (ops,i,o::l),todo,rnd,rs,st.env⟩ st cs lps
  | none=>match y0c P S Rc false o cx st with
   | some st=>some ⟨cx,some (ops,i+1,l),todo,rnd,rs,st,cs,lps⟩
   | none=>none
 | some (false,st)=>match st.put cx o.dst (.tup []) with
  | some st=>some ⟨cx,some (ops,i+1,l),todo,rnd,rs,st,cs,lps⟩
  | none=>none
 | none=>none
def z3u (ops:Array Oper):Bool:=ops.toList.all fun o=>match o.op with
 | .defer _=>false
 | _=>true
def stubOp (o:Oper):Oper:=⟨none,.move (.const (.bool true)),o.type,o.pos,o.after,none⟩
def Xt (ops:Array Oper) (m:Nat):Array Oper:=⟨ops.toList.take m++(ops.toList.drop m).map stubOp⟩
def v9o (ops:Array Oper) (m:Nat):Bool:=
 z3u ops&&(x3v (Xt ops m)&&(((List.range ops.size).all fun j=>Nat.ble (j+1) m||(List.range j).all fun i=>((v2i (Xt ops m).toList []).getD j 0).testBit i)&&((List.range m).all fun i=>match ops[i]? with
  | some ⟨_,_,_,_,_,some (j,_)⟩=>Nat.ble (j+1) m
  | _=>true)))
def u5m (f:Operand):List Oper→Operand
 | []=>f
 | ⟨some d,.move x,_,_,_,_⟩::l=>match f with
  | .tmp t=>bif Nat.beq t d then x else u5m f l
  | _=>f
 | _::l=>u5m f l
def v0n (st:St) (ops:List Oper):Oper→Bool
 | ⟨_,.call ⟨.value f,_,_⟩,_,_,_,_⟩=>match st.eval (u5m f ops) with
  | .yld _=>true
  | _=>false
 | _=>false
def y9i (st:St) (ops:List Oper):List Oper→Nat→Option Nat
 | [],_=>none
 | o::l,i=>bif v0n st ops o then some i else y9i st ops l (i+1)
def u5j (ops:Array Oper) (st:St):Option Nat:=
 match y9i st ops.toList ops.toList 0 with
 | some m=>bif v9o ops m then some m else none
 | none=>none
def St.nextId :St→Nat×St
 | ⟨env,mem,next,orc,ob⟩=>(next,⟨env,mem,next+1,orc,ob⟩)
def w2k (P:Program) (S:Specs) (Rc:Runner):Cfg→Option Cfg
 | ⟨cx,some (_,_,[]),todo,rnd,rs,st,cs,lps⟩=>some ⟨cx,none,todo,rnd,rs,st,cs,lps⟩
 | ⟨cx,some (ops,i,o::l),todo,rnd,rs,st,cs,lps⟩=>w6g P S Rc cx ops i o l todo rnd rs st cs lps
 | ⟨cx,none,todo,rnd,rs,st,cs,lps⟩=>match todo with
  | []=>x3d P rnd rs st cs lps none
  | .code .ret ::_=>x3d P rnd rs st cs lps (some .ret)
  | .code .skip ::k=>some ⟨cx,none,k,rnd,rs,st,cs,lps⟩
  | .code (.label _)::k=>some ⟨cx,none,k,rnd,rs,st,cs,lps⟩
  | .inBlock _::k=>some ⟨cx,none,k,rnd,rs,st,cs,lps⟩
  | .inScope _::k=>some ⟨cx,none,k,rnd,rs,st,cs,lps⟩
  | .code (.seq a b)::k=>some ⟨cx,none,.code a::.code b::k,rnd,rs,st,cs,lps⟩
  | .code (.cond c a b)::k=>match st.eval c with
   | .bool v=>match st.test v with
    | (e,st)=>some ⟨cx,none,.code (bif e then a else b)::k,rnd,rs,st,cs,lps⟩
   | _=>none
  | .code (.block id body)::k=>some ⟨cx,none,.code body::.inBlock id::k,rnd,rs,st,cs,lps⟩
  | .code (.scope body)::k=>some ⟨cx,none,.code body::.inScope body::k,rnd,rs,st,cs,lps⟩
  | .code (.loop body)::k=>some ⟨cx,none,.code body::.inLoop body::k,rnd,rs,st,cs,lps⟩
  | .inLoop body::k=>some ⟨cx,none,.code body::.inLoop body::k,rnd,rs,st,cs,lps⟩
  | .code (.exit id)::k=>match exitTo id k with
   | some k=>some ⟨cx,none,k,rnd,rs,st,cs,lps⟩
   | none=>match rnd with
    | some _=>x3d P rnd rs st cs lps (some (.exit id))
    | none=>none
  | .code (.region _ ops false)::k=>bif z3u ops then some ⟨cx,some (ops,0,ops.toList),k,rnd,rs,st,cs,lps⟩ else none
  | .code (.region _ ops true)::k=>match u5j ops st with
   | some m=>match z8x P S Rc (Xt ops m) cx (z0v (Xt ops m)) [] st with
    | some st=>some ⟨cx,some (ops,m,ops.toList.drop m),k,rnd,rs,st,cs,lps⟩
    | none=>none
   | none=>bif x3v ops&&z3u ops then
    match z8x P S Rc ops cx (z0v ops) [] st with
    | some st=>some ⟨cx,none,k,rnd,rs,st,cs,lps⟩
    | none=>none
   else none
  | .code (.rangeFunc f params assign body)::k=>match st.eval f with
   | .fn g caps=>match st.nextId with
    | (j,st')=>bif rndOk lps rnd then y8t P g (.yld j::caps) ⟨cx,none,.inRangeFunc j::k,rnd,rs,st.env⟩ st' cs (w5o lps j (some ⟨.ready,none,cx.n,st.env,params.toList,assign,body⟩)) else none
   | _=>none
  | .beginRound ::k=>match rnd with
   | some j=>match y1z lps j with
    | some ⟨.ready,pend,n,env,params,assign,body⟩=>some ⟨cx,none,k,rnd,rs,st,cs,w5o lps j (some ⟨.busy,pend,n,env,params,assign,body⟩)⟩
    | _=>none
   | none=>none
  | .endRangeFunc j::k=>match y1z lps j with
   | some ⟨.busy,_,_,_,_,_,_⟩=>none
   | some ⟨_,pend,n,env,params,assign,body⟩=>some ⟨cx,none,(pend.map Item.code).toList ++k,rnd,rs,st,cs,w5o lps j (some ⟨.exhausted,pend,n,env,params,assign,body⟩)⟩
   | none=>none
  | _=>none
def z5n :Cfg→Bool
 | ⟨_,none,[],none,_,_,[],_⟩=>true
 | ⟨_,none,.code .ret ::_,none,_,_,[],_⟩=>true
 | _=>false
def runS (P:Program) (S:Specs) (Rc:Runner) (n:Nat):Cfg→Option Cfg:=
 Nat.rec (motive:=fun _=>Cfg→Option Cfg) (fun _=>none) (fun _ R C=>bif z5n C then some C else match w2k P S Rc C with
  | some C'=>R C'
  | none=>none) n
def Qo :Item→Bool
 | .code _ | .inBlock _ | .inLoop _ | .inScope _ | .beginRound =>true
 | _=>false
def u6n (P:Program) (S:Specs) (n:Nat) (d:Nat):Runner:=
 Nat.rec (motive:=fun _=>Runner) (fun _ _ _=>none) (fun _ R cx todo st=>bif todo.all Qo&&Nat.ble cx.floor st.next then match runS P S R n ⟨cx,none,todo,none,[],st,[],.leaf⟩ with
  | some C=>bif Nat.beq C.cx.n cx.n then some C.st else none
  | none=>none
  else none) d
end Go.Am
namespace Go.Am
section
variable {P:Program}
section ops
variable {b:Frame} {a:Act} {k:List Item} {cs:List Frame} {w:World} {ops:Array Oper}
theorem x0g {i:Nat} {rest:List Nat} {o:Oper} {K:Act→World→Prop} {Q:Exit→Act→World→Prop} (hQ: ∀e a w,Q e a w→e=.normal) (ho:ops[i]? =some o) (hnd: ∀c,o.op≠ .defer c)
  (h:if Region.wanted o (yielded ops a.tmps) then o.wp P a w K Q else K (a.put o.dst undef) w):
  ∃a' w',K a' w'∧Steps P (lone (b.atR a (.inRegion ops (i::rest)::k)) cs w) (lone (b.atR a' (.inRegion ops rest::k)) cs w'):=by
 by_cases hw:Region.wanted o (yielded ops a.tmps)=true
 ·rw [if_pos hw] at h;have hg:=stepGR_op (P:=P) (b:=b) (k:=k) (cs:=cs) (w:=w) (rest:=rest) ho hw;rw [Oper.semAt_eq _ _ _ hnd] at hg;have fin: ∀(a:Act) (v:Value),(b.atR a (.inRegion ops (i::rest)::k)).finish v=b.atR (a.put o.dst v) (.inRegion ops rest::k):=fun a v=>by rw [Frame.finish_atR,ho];rfl
  unfold Oper.wp at h;generalize hr:(execOp a.eval o).run P w=r at h;cases r with
  | ok n w'=>
   cases n <;> simp only [Oper.upon] at h
   case value v=>exact ⟨_,w',h,.one (step_lone_go (by rw [hg,←fin a v];simp [stepG.apply,hr]))⟩
   case skip=>exact ⟨_,w',h,.one (step_lone_go (by rw [hg,←fin a undef];simp [stepG.apply,hr]))⟩
   case defer d=>refine ⟨_,w',h,.one (step_lone_go ?_)⟩;have e:=fin {a with defers:=d::a.defers} undef;rw [hg,←e];simp [stepG.apply,hr,Frame.atR]
   case enter f args=>
    obtain ⟨e,w'',fr,hR,eU,_,hleave⟩:=h (b.atR a (.inRegion ops (i::rest)::k)::cs);have gE:step P (lone (b.atR a (.inRegion ops (i::rest)::k)) cs w)=.next (lone (Frame.enter P f args .normal) (b.atR a (.inRegion ops (i::rest)::k)::cs) w'):=
     step_lone_go (by rw [hg];simp [stepG.apply,hr,Frame.atR])
    cases e with
    | returned v=>refine ⟨_,w'',hR,.head gE (eU.trans (.one ?_))⟩;rw [←fin a v];exact step_leave_returned hleave
    | panicked chain=>exact absurd (hQ _ _ _ hR) (by simp)
    | outgrown=>obtain ⟨_,_,hq⟩:=hR;exact absurd (hQ _ _ _ hq) (by simp)
   case row row args=>
    obtain ⟨v,w'',hR,eU⟩:=h (b.atR a (.inRegion ops (i::rest)::k)) cs;have gE:step P (lone (b.atR a (.inRegion ops (i::rest)::k)) cs w)=.next (lone (Frame.ofRow P row args .normal) (b.atR a (.inRegion ops (i::rest)::k)::cs) w'):=
     step_lone_go (by rw [hg];simp [stepG.apply,hr,Frame.atR])
    refine ⟨_,w'',hR,.head gE ?_⟩;rw [←fin a v];exact eU
   all_goals exact h.elim
  | halt x w'=>cases x <;> simp only [Oper.upon] at h <;> first | exact h.elim | exact absurd (hQ _ _ _ h) (by simp)
 ·rw [if_neg hw] at h;have hs:=stepR_op_skip (P:=P) (b:=b) (a:=a) (k:=k) (cs:=cs) (w:=w) (ops:=ops) (i:=i) (rest:=rest) (by simp [ho];simpa using hw);rw [ho] at hs;exact ⟨_,w,h,.one hs⟩
theorem y3q {R:Act→World→Prop} {Q:Exit→Act→World→Prop} (hQ: ∀e a w,Q e a w→e=.normal ∧R a w) (hnd:z3u ops=true): ∀(l:List Nat) (a:Act) (w:World),wpOps P ops Q l a w→
  ∃a' w',R a' w'∧Steps P (lone (b.atR a (.inRegion ops l::k)) cs w) (lone (b.atR a' k) cs w')
 | [],a,w,h=>⟨a,w,(hQ _ _ _ h).2,.one stepR_region_end⟩
 | i ::l,a,w,h=>by
  simp only [wpOps] at h;cases ho:ops[i]? with
  | none=>rw [ho] at h;obtain ⟨a',w',hR,hs⟩:=y3q hQ hnd l a w h;have h1:=stepR_op_skip (P:=P) (b:=b) (a:=a) (k:=k) (cs:=cs) (w:=w) (ops:=ops) (i:=i) (rest:=l) (by simp [ho]);rw [ho] at h1;exact ⟨a',w',hR,.head h1 hs⟩
  | some o=>
   rw [ho] at h;have hno: ∀c,o.op≠ .defer c:=by
    intro c hc;have hm:o∈ops.toList:=by rw [Array.mem_toList_iff];exact Array.mem_of_getElem? ho
    have:=List.all_eq_true.1 hnd o hm;rw [hc] at this;cases this
   have h':if Region.wanted o (yielded ops a.tmps) then o.wp P a w (wpOps P ops Q l) Q else wpOps P ops Q l (a.put o.dst undef) w:=by
    by_cases hw:Region.wanted o (yielded ops a.tmps)=true
    ·simp only [hw,if_true] at h ⊢;rcases h with h | ⟨_,a0,w0,h0⟩
     ·exact h
     ·exact absurd (hQ _ _ _ h0).1 (by simp)
    ·simp only [hw,if_false,Bool.false_eq_true] at h ⊢;exact h
   obtain ⟨a1,w1,h1,s1⟩:=x0g (b:=b) (k:=k) (cs:=cs) (rest:=l) (fun e a w q=>(hQ e a w q).1) ho hno h';obtain ⟨a',w',hR,hs⟩:=y3q hQ hnd l a1 w1 h1;exact ⟨a',w',hR,s1.trans hs⟩
end ops
end
end Go.Am
namespace Go.Am
section
variable {P:Program}
def Sp (ρ:Rho) (w:World) (r:Nat):Prop:=r<w.heap.size∧ρ.fz r=none∧ ∀b l,ρ b=some l→l.blk≠r
theorem Sp.ev {ρ ρ':Rho} {floor:Nat} {m m':Mem} {n n':Nat} {w w':World} (he:Ev ρ ρ' floor m n m' n' w w') {r:Nat} (hs:Sp ρ w r):Sp ρ' w' r∧w'.heap[r]? =w.heap[r]? :=by
 obtain ⟨h1,h2,h3⟩:=hs;refine ⟨⟨Nat.lt_of_lt_of_le h1 he.size,by rw [he.still r h1];exact h2,fun b l hl=> ?_⟩,?_⟩
 ·by_cases hb:b<n
  ·rw [he.new b hb] at hl;exact h3 b l hl
  ·rcases he.fresh b l (by omega) hl with h | ⟨b0,l0,e0,_,g0⟩
   ·omega
   ·rw [←g0];exact h3 b0 l0 e0
 ·have:w.heap[r]? =some w.heap[r]:=by simp [h1]
  rw [this];exact he.frame r _ this fun b l hl _=>h3 b l hl
structure Vv (m:List Nat) (w w':World):Prop where
 size:w'.heap.size=w.heap.size
 other: ∀k,k ∉ m→w'.heap[k]? =w.heap[k]?
 os:w'.os=w.os
 tape:w'.tape=w.tape
 output:w'.output=w.output
theorem Vv.refl (m:List Nat) (w:World):Vv m w w:=⟨rfl,fun _ _=>rfl,rfl,rfl,rfl⟩
theorem Vv.put (w:World) (r:Nat) (o:Obj):Vv [r] w (w.putObj r o):=⟨World.putObj_size,fun k hk=>World.putObj_heap_other (by simpa using hk),rfl,rfl,rfl⟩
theorem Vv.trans {m m':List Nat} {a b c:World} (h:Vv m a b) (k:Vv m' b c):Vv (m++m') a c:=
 ⟨k.size.trans h.size,fun i hi=>by simp only [List.mem_append,not_or] at hi;exact (k.other i hi.2).trans (h.other i hi.1),k.os.trans h.os,k.tape.trans h.tape,k.output.trans h.output⟩
theorem Rel.turned {ρ:Rho} {mem:Mem} {next:Nat} {w w':World} (h:Rel ρ mem next w) {m:List Nat} (hm: ∀r∈m,Sp ρ w r) (ht:Vv m w w'):Rel ρ mem next w':=
 ⟨h.dom,h.inj,fun b l ab e g=>(h.blk b l ab e g).world (Rho.le_refl ρ) (ht.other _ fun hr=>(hm _ hr).2.2 b l e rfl),fun k o e=>by
  rw [ht.other k fun hr=>by rw [(hm _ hr).2.1] at e;cases e];exact h.old k o e,
  h.sep,fun b l e=>by rw [ht.size];exact h.real b l e,h.bd,h.ldom⟩
theorem Ev.turned {ρ0 ρ:Rho} {floor:Nat} {m0 mem:Mem} {n0 next:Nat} {w0 w w':World} (h:Ev ρ0 ρ floor m0 n0 mem next w0 w) {m:List Nat} (hm: ∀r∈m,w0.heap.size≤r) (ht:Vv m w w'):Ev ρ0 ρ floor m0 n0 mem next w0 w':=
 ⟨h.ext,h.new,h.nxt,h.unborn,fun k o hk hf=>by
  have hlt:k<w0.heap.size:=(Array.getElem?_eq_some_iff.1 hk).1;rw [ht.other k fun hr=>by have:=hm k hr;omega];exact h.frame k o hk hf,h.fresh,by rw [ht.size];exact h.size,ht.os.trans h.os,ht.tape.trans h.tape,ht.output.trans h.output,h.still⟩
theorem Sp.turned {ρ:Rho} {w w':World} {r:Nat} (h:Sp ρ w r) {m:List Nat} (ht:Vv m w w'):Sp ρ w' r:=⟨by rw [ht.size];exact h.1,h.2.1,h.2.2⟩
theorem Rel.grow {ρ:Rho} {mem:Mem} {next:Nat} {w:World} (h:Rel ρ mem next w) (o:Obj):Rel ρ mem next (w.alloc o):=by
 have same: ∀k,k<w.heap.size→(w.alloc o).heap[k]? =w.heap[k]? :=fun k hk=>by show (w.heap.push o)[k]? =_;simp [Array.getElem?_push,Nat.ne_of_lt hk]
 exact ⟨h.dom,h.inj,fun b l ab e g=>(h.blk b l ab e g).world (Rho.le_refl ρ) (same _ (h.real b l e)),fun k ob e=>by
  have:=h.old k ob e;rw [same k (Array.getElem?_eq_some_iff.1 this).1];exact this,h.sep,fun b l e=>by
  have:=h.real b l e;show l.blk<(w.heap.push o).size;simp;omega,h.bd,h.ldom⟩
theorem Ev.grow {ρ0 ρ:Rho} {floor:Nat} {m0 mem:Mem} {n0 next:Nat} {w0 w:World} (h:Ev ρ0 ρ floor m0 n0 mem next w0 w) (o:Obj):Ev ρ0 ρ floor m0 n0 mem next w0 (w.alloc o):=
 ⟨h.ext,h.new,h.nxt,h.unborn,fun k ob hk hf=>by
  have:=h.frame k ob hk hf;have hlt:=(Array.getElem?_eq_some_iff.1 this).1;show (w.heap.push o)[k]? =_;simp only [Array.getElem?_push,Nat.ne_of_lt hlt,if_false];exact this,h.fresh,by
  have:=h.size;show _≤(w.heap.push o).size;simp;omega,h.os,h.tape,h.output,h.still⟩
theorem Sp.grow {ρ:Rho} {w:World} {r:Nat} (h:Sp ρ w r) (o:Obj):Sp ρ (w.alloc o) r∧(w.alloc o).heap[r]? =w.heap[r]? :=by
 refine ⟨⟨?_,h.2.1,h.2.2⟩,?_⟩
 ·have:=h.1;show r<(w.heap.push o).size;simp;omega
 ·show (w.heap.push o)[r]? =_;simp [Array.getElem?_push,Nat.ne_of_lt h.1]
theorem Sp.fresh {ρ:Rho} {mem:Mem} {next:Nat} {w:World} (h:Rel ρ mem next w) (o:Obj):Sp ρ (w.alloc o) w.heap.size:=
 ⟨by show _<(w.heap.push o).size;simp,h.hold _ (Nat.le_refl _),fun b l e=>Nat.ne_of_lt (h.real b l e)⟩
def lpAdd (ρ:Rho) (j l:Nat):Rho:=⟨ρ.f,ρ.fz,fun k=>if k=j then some l else ρ.lp k⟩
theorem Rel.lp_none {ρ:Rho} {mem:Mem} {next:Nat} {w:World} (h:Rel ρ mem next w):ρ.lp next=none:=by
 cases e:ρ.lp next with
 | none=>rfl
 | some l=>exact absurd (h.ldom _ _ e) (Nat.lt_irrefl _)
theorem x0j {ρ:Rho} {j l:Nat} (h:ρ.lp j=none):ρ.le (lpAdd ρ j l):=⟨fun _ _ e=>e,fun _ _ e=>e,fun k l' e=>by
 show (if k=j then some l else ρ.lp k)=some l';by_cases hk:k=j
 ·subst hk;rw [h] at e;cases e
 ·rw [if_neg hk];exact e⟩
theorem Rel.lpAdd {ρ:Rho} {mem:Mem} {next:Nat} {w:World} (h:Rel ρ mem next w) (l:Nat):Rel (lpAdd ρ next l) mem (next+1) w:=
 ⟨fun b l' e=>Nat.lt_succ_of_lt (h.dom b l' e),h.inj,fun b l' ab e g=>(h.blk b l' ab e g).world (x0j h.lp_none) rfl,h.old,h.sep,h.real,fun b hb=>h.bd b (by omega),fun j l' e=>by
  have e:(if j=next then some l else ρ.lp j)=some l':=e;by_cases hj:j=next
  ·omega
  ·rw [if_neg hj] at e;exact Nat.lt_succ_of_lt (h.ldom j l' e)⟩
theorem Ev.lpAdd {ρ0 ρ:Rho} {floor:Nat} {m0 mem:Mem} {n0 next:Nat} {w0 w:World} (h:Ev ρ0 ρ floor m0 n0 mem next w0 w) (hr:Rel ρ mem next w) (l:Nat):Ev ρ0 (lpAdd ρ next l) floor m0 n0 mem (next+1) w0 w:=
 ⟨Rho.le_trans h.ext (x0j hr.lp_none),h.new,Nat.le_succ_of_le h.nxt,h.unborn,h.frame,h.fresh,h.size,h.os,h.tape,h.output,h.still⟩
inductive w2b (ρ:Rho):Item→Item→Prop
 | same (x:Item) (h:Qo x=true):w2b ρ x x
 | inR (j l:Nat) (h:ρ.lp j=some l):w2b ρ (.inRangeFunc j) (.inRangeFunc l)
 | endR (j l:Nat) (h:ρ.lp j=some l):w2b ρ (.endRangeFunc j) (.endRangeFunc l)
abbrev y5w (ρ:Rho):List Item→List Item→Prop:=Vj (w2b ρ)
theorem Vj.mono {α β:Type} {R R':α→β→Prop} (hr: ∀a b,R a b→R' a b) {l:List α} {m:List β} (h:Vj R l m):Vj R' l m:=by
 induction h with
 | nil=>exact .nil
 | cons h _ ih=>exact .cons (hr _ _ h) ih
theorem w2b.mono {ρ ρ':Rho} (h:ρ.le ρ') {x y:Item} (hx:w2b ρ x y):w2b ρ' x y:=by
 cases hx with
 | same x hx=>exact .same x hx
 | inR j l e=>exact .inR j l (h.2.2 _ _ e)
 | endR j l e=>exact .endR j l (h.2.2 _ _ e)
theorem y5w.exit {ρ:Rho} {k k':List Item} (h:y5w ρ k k') (id:Nat):(∀r,exitTo id k=some r→ ∃r',exitTo id k'=some r'∧y5w ρ r r')∧(exitTo id k=none→exitTo id k'=none):=by
 induction h with
 | nil=>exact ⟨fun r e=>(by cases e),fun _=>rfl⟩
 | @cons x y l m hx t ih=>
  cases hx with
  | same x hx=>
   cases x with
   | inBlock id'=>
    unfold exitTo;by_cases he:(id' == id)=true
    ·rw [if_pos he,if_pos he];exact ⟨fun r e=>⟨m,rfl,by obtain rfl:=Option.some.inj e;exact t⟩,fun e=>by cases e⟩
    ·rw [if_neg he,if_neg he];exact ih
   | code _=>exact ih
   | inLoop _=>exact ih
   | inScope _=>exact ih
   | beginRound=>exact ih
   | inRegion _ _=>cases hx
   | inRangeFunc _=>cases hx
   | endRangeFunc _=>cases hx
   | call _ _ _ _=>cases hx
   | extern _ _=>cases hx
  | inR j l e=>exact ih
  | endR j l e=>exact ih
def u8a (r:Nat):Deferred:={target:=.collected r,args:= #[]}
def Wi (ro:Option RegOps) (k:List Item):List Item:=match ro with
 | none=>k
 | some (ops,i,_)=>.inRegion ops ((List.range ops.size).drop i)::k
def roOk :Option RegOps→Prop
 | none=>True
 | some (ops,i,l)=>l=ops.toList.drop i∧z3u ops=true
structure w5t (ρ:Rho) (cx:Ctx) (ro:Option RegOps) (todo:List Item) (rnd:Option Nat) (env:T AVal) (b:Frame) (a:Act) (k:List Item) (ms:List Nat):Prop where
 env:Wq ρ env cx.n a.tmps
 defers:a.defers=ms.map u8a
 todo:y5w ρ todo k
 ro:roOk ro
 rnd:match rnd with
  | none=>b.roundOf=none
  | some j=>ms=[]∧ ∃l,ρ.lp j=some l∧b.roundOf=some l
theorem w5t.mono {ρ ρ':Rho} (h:ρ.le ρ') {cx:Ctx} {ro:Option RegOps} {todo:List Item} {rnd:Option Nat} {env:T AVal} {b:Frame} {a:Act} {k:List Item} {ms:List Nat} (hf:w5t ρ cx ro todo rnd env b a k ms):w5t ρ' cx ro todo rnd env b a k ms:=
 ⟨hf.env.mono h,hf.defers,hf.todo.mono fun _ _=>w2b.mono h,hf.ro,by
  have:=hf.rnd;cases rnd with
  | none=>exact this
  | some j=>obtain ⟨h0,l,h1,h2⟩:=this;exact ⟨h0,l,h.2.2 _ _ h1,h2⟩⟩
def v3a (P:Program) (rnd:Option Nat) (rs:List ResultVar) (b:Frame):Prop:=b.kind=.normal ∧(rnd=none→ ∃fn,P.funcs[b.fn]? =some fn∧fn.results.toList=rs)
inductive w5u (P:Program) (ρ:Rho):List AFr→List Frame→List Nat→Prop
 | nil:w5u P ρ [] [] []
 | cons {af:AFr} {b:Frame} {a:Act} {k:List Item} {ms:List Nat} {cs:List AFr} {css:List Frame} {mss:List Nat} (h:w5t ρ af.cx af.ro af.todo af.rnd af.env b a k ms)
   (hl:cs≠ []→v3a P af.rnd af.rs b) (t:w5u P ρ cs css mss):w5u P ρ (af::cs) (b.atR a (Wi af.ro k)::css) (ms++mss)
theorem w5u.mono {ρ ρ':Rho} (h:ρ.le ρ') {cs:List AFr} {css:List Frame} {mss:List Nat} (hc:w5u P ρ cs css mss):w5u P ρ' cs css mss:=by
 induction hc with
 | nil=>exact .nil
 | cons hf hl t ih=>exact .cons (hf.mono h) hl ih
structure y9h (base:Nat) (ρ:Rho) (w:World) (j:Nat) (L:ALoop) (l:Nat):Prop where
 lp:ρ.lp j=some l
 low:base≤l
 sp:Sp ρ w l
 obj: ∃tmps fn d,w.heap[l]? =some (.loop ⟨L.st,L.pend,fn,tmps,L.params.toArray,L.assign,L.body,d⟩)∧Wq ρ L.env L.n tmps
structure y9g (P:Program) (base:Nat) (ρ:Rho) (cs:List AFr) (lps:Loops) (css:List Frame) (w:World) (m0 m1:List Nat):Prop where
 cs:w5u P ρ cs css m1
 nodup:(m0++m1).Nodup
 marks: ∀r∈m0++m1,base≤r∧Sp ρ w r∧w.heap[r]? =some (.deferred (some []))
 loops: ∀j L,y1z lps j=some L→ ∃l,y9h base ρ w j L l
 inj: ∀j j' L L' l,y1z lps j=some L→y1z lps j'=some L'→ρ.lp j=some l→ρ.lp j'=some l→j=j'
theorem y9h.ev {base:Nat} {ρ ρ':Rho} {floor:Nat} {m m':Mem} {n n':Nat} {w w':World} (he:Ev ρ ρ' floor m n m' n' w w') {j:Nat} {L:ALoop} {l:Nat} (h:y9h base ρ w j L l):y9h base ρ' w' j L l:=by obtain ⟨h1,h2,h3,tmps,fn,d,h4,h5⟩:=h;obtain ⟨s1,s2⟩:=h3.ev he;exact ⟨he.ext.2.2 _ _ h1,h2,s1,tmps,fn,d,by rw [s2];exact h4,h5.mono he.ext⟩
theorem y9g.ev {base:Nat} {ρ ρ':Rho} {floor:Nat} {m m':Mem} {n n':Nat} {w w':World} (he:Ev ρ ρ' floor m n m' n' w w') {cs:List AFr} {lps:Loops} {css:List Frame} {m0 m1:List Nat} (h:y9g P base ρ cs lps css w m0 m1):y9g P base ρ' cs lps css w' m0 m1:=by
 refine ⟨h.cs.mono he.ext,h.nodup,fun r hr=> ?_,fun j L hL=> ?_,fun j j' L L' l hL hL' e e'=> ?_⟩
 ·obtain ⟨h1,h2,h3⟩:=h.marks r hr;obtain ⟨s1,s2⟩:=h2.ev he;exact ⟨h1,s1,by rw [s2];exact h3⟩
 ·obtain ⟨l,hl⟩:=h.loops j L hL;exact ⟨l,hl.ev he⟩
 ·obtain ⟨l1,hl1⟩:=h.loops j L hL;obtain ⟨l2,hl2⟩:=h.loops j' L' hL';have e1:=he.ext.2.2 _ _ hl1.lp;have e2:=he.ext.2.2 _ _ hl2.lp;rw [e] at e1;rw [e'] at e2;obtain rfl:=Option.some.inj e1;obtain rfl:=Option.some.inj e2;exact h.inj j j' L L' l hL hL' hl1.lp hl2.lp
theorem y9g.turned {base:Nat} {ρ:Rho} {w w':World} {cs:List AFr} {lps:Loops} {css:List Frame} {m0 m0' m1:List Nat} (h:y9g P base ρ cs lps css w m0 m1) {m:List Nat} (ht:Vv m w w') (hsub:m0'.Sublist m0) (hm: ∀r∈m,r ∉ m0'++m1) (hl: ∀r∈m,∃ds,w.heap[r]? =some (.deferred ds)):
  y9g P base ρ cs lps css w' m0' m1:=by
 refine ⟨h.cs,h.nodup.sublist (hsub.append (List.Sublist.refl _)),fun r hr=> ?_,fun j L hL=> ?_,h.inj⟩
 ·obtain ⟨h1,h2,h3⟩:=h.marks r ((hsub.append (List.Sublist.refl m1)).subset hr);exact ⟨h1,h2.turned ht,by rw [ht.other r fun hrm=>hm r hrm hr];exact h3⟩
 ·obtain ⟨l,h1,h2,h3,tmps,fn,d,h4,h5⟩:=h.loops j L hL;refine ⟨l,h1,h2,h3.turned ht,tmps,fn,d,?_,h5⟩;rw [ht.other l fun hlm=> ?_]
  ·exact h4
  ·obtain ⟨ds,hd⟩:=hl l hlm;rw [h4] at hd;cases hd
theorem y9g.record {base:Nat} {ρ:Rho} {w w':World} {cs:List AFr} {lps:Loops} {css:List Frame} {m0 m1:List Nat} (h:y9g P base ρ cs lps css w m0 m1) {j l:Nat} {L L':ALoop} (hj:y1z lps j=some L) (hl:y9h base ρ w j L l)
  (hL:y9h base ρ w' j L' l) (ht:Vv [l] w w'):y9g P base ρ cs (w5o lps j (some L')) css w' m0 m1:=by
 have fY:=hl.obj;obtain ⟨tmps,fn,d,h4,_⟩:=fY;have get: ∀i,y1z (w5o lps j (some L')) i=if i=j then some L' else y1z lps i:=fun i=>T.get_set none lps j (some L') i
 refine ⟨h.cs,h.nodup,fun r hr=> ?_,fun i M hM=> ?_,fun i i' M M' l' hM hM' e e'=> ?_⟩
 ·obtain ⟨h1,h2,h3⟩:=h.marks r hr;refine ⟨h1,h2.turned ht,?_⟩;rw [ht.other r fun hrm=> ?_]
  ·exact h3
  ·obtain rfl:r=l:=by simpa using hrm
   rw [h4] at h3;cases h3
 ·rw [get] at hM;by_cases hij:i=j
  ·subst hij;rw [if_pos rfl] at hM;obtain rfl:=Option.some.inj hM;exact ⟨l,hL⟩
  ·rw [if_neg hij] at hM;obtain ⟨l2,q1,q2,q3,tmps2,fn2,d2,q4,q5⟩:=h.loops i M hM;refine ⟨l2,q1,q2,q3.turned ht,tmps2,fn2,d2,?_,q5⟩;rw [ht.other l2 fun hlm=> ?_]
   ·exact q4
   ·obtain rfl:l2=l:=by simpa using hlm
    exact hij (h.inj i j M L l2 hM hj q1 hl.lp)
 ·rw [get] at hM hM';have old: ∀x N,(if x=j then some L' else y1z lps x)=some N→ ∃N',y1z lps x=some N':=fun x N hx=>by
   by_cases hxj:x=j
   ·exact ⟨L,by rw [hxj];exact hj⟩
   ·rw [if_neg hxj] at hx;exact ⟨N,hx⟩
  obtain ⟨N,hN⟩:=old i M hM;obtain ⟨N',hN'⟩:=old i' M' hM';exact h.inj i i' N N' l' hN hN' e e'
end
end Go.Am
namespace Go.Am
section
variable {P:Program}
structure j1n (P:Program) (base:Nat) (C:Cfg) (ρ:Rho) (b:Frame) (a:Act) (k:List Item) (css:List Frame) (w:World) (ma mb:List Nat):Prop where
 top:w5t ρ C.cx C.ro C.todo C.rnd C.st.env b a k ma
 lv:C.cs≠ []→v3a P C.rnd C.rs b
 rest:y9g P base ρ C.cs C.lps css w ma mb
 rel:Rel ρ C.st.mem C.st.next w
structure Fl (fl:Nat) (C:Cfg):Prop where
 cx:C.cx.floor=fl
 cs: ∀af∈C.cs,af.cx.floor=fl
 le:fl≤C.st.next
def x8x (b:Frame):List Frame→FuncId×CallKind×Option Nat
 | []=>(b.fn,b.kind,b.roundOf)
 | c::css=>x8x c css
def z9t (P:Program) (fl:Nat) (C C':Cfg):Prop:=
 ∀(m0:Mem) (n0:Nat) (ρ0:Rho) (w0:World) (ρ:Rho) (b:Frame) (a:Act) (k:List Item) (css:List Frame) (w:World) (ma mb:List Nat),j1n P w0.heap.size C ρ b a k css w ma mb→Ev ρ0 ρ fl m0 n0 C.st.mem C.st.next w0 w→ ∀cs0:List Frame,
  ∃ρ' b' a' k' css' w' ma' mb',Steps P (lone (b.atR a (Wi C.ro k)) (css++cs0) w) (lone (b'.atR a' (Wi C'.ro k')) (css'++cs0) w')∧j1n P w0.heap.size C' ρ' b' a' k' css' w' ma' mb'∧Ev ρ0 ρ' fl m0 n0 C'.st.mem C'.st.next w0 w'∧x8x b' css'=x8x b css
theorem z9t.refl (fl:Nat) (C:Cfg):z9t P fl C C:=fun m0 n0 ρ0 w0 ρ b a k css w ma mb hs he cs0=>⟨ρ,b,a,k,css,w,ma,mb,Steps.refl _ _,hs,he,rfl⟩
structure Sim (P:Program) (fl:Nat) (C C':Cfg):Prop where
 fls:Fl fl C'
 inv:Wp fl C.st C'.st
 leads:C'.st.ob=true→z9t P fl C C'
theorem Sim.move {fl:Nat} {cx:Ctx} {todo todo':List Item} {rnd:Option Nat} {rs:List ResultVar} {st:St} {cs:List AFr} {lps:Loops} (hfl:Fl fl ⟨cx,none,todo,rnd,rs,st,cs,lps⟩)
  (hk: ∀(ρ:Rho) (k:List Item),y5w ρ todo k→ ∃k',y5w ρ todo' k'∧ ∀(b:Frame) (a:Act) (css:List Frame) (w:World),step P (lone (b.atR a k) css w)=.next (lone (b.atR a k') css w)):
  Sim P fl ⟨cx,none,todo,rnd,rs,st,cs,lps⟩ ⟨cx,none,todo',rnd,rs,st,cs,lps⟩:=
 ⟨⟨hfl.cx,hfl.cs,hfl.le⟩,Wp.refl _ _,fun ho m0 n0 ρ0 w0 ρ b a k css w ma mb hs he cs0=>by
   obtain ⟨k',ht,fE⟩:=hk ρ k hs.top.todo;exact ⟨ρ,b,a,k',css,w,ma,mb,.one (fE b a _ w),⟨⟨hs.top.env,hs.top.defers,ht,trivial,hs.top.rnd⟩,hs.lv,hs.rest,hs.rel⟩,he,rfl⟩⟩
theorem y5w.code {ρ:Rho} {c:Code} {t k:List Item} (h:y5w ρ (.code c::t) k): ∃k',k=.code c::k'∧y5w ρ t k':=by
 cases h with
 | cons hx ht=>cases hx;exact ⟨_,rfl,ht⟩
theorem z9w {cs:List Frame}: ∀(ms:List Nat) (fr:Frame) (w:World),fr.mode=.returning →fr.defers=ms.map u8a→ms.Nodup→(∀r∈ms,w.heap[r]? =some (.deferred (some [])))→
  ∃w',Steps P (lone fr cs w) (lone {fr with defers:=[]} cs w')∧Vv ms w w'
 | [],fr,w,hm,hd,_,_=>⟨w,by
   have:{fr with defers:=[]}=fr:=by cases fr;simp only at hd;subst hd;rfl
   rw [this];exact Steps.refl _ _,Vv.refl _ _⟩
 | r::ms,fr,w,hm,hd,hn,ho=>by
  have hr:=ho r (by simp);have h1:=step_collected (P:=P) (cs:=cs) (fr:=fr) (d:=u8a r) (ds:=ms.map u8a) (by rw [hm];simp) (by rw [hd];rfl) rfl (run_takeDeferred hr);rw [List.nodup_cons] at hn;obtain ⟨w',hs,ht⟩:=z9w (cs:=cs) ms {fr with defers:=ms.map u8a} (w.putObj r (.deferred none)) hm rfl hn.2 fun r' hr'=>by rw [World.putObj_heap_other (fun e=>hn.1 (by rw [←e];exact hr'))];exact ho r' (by simp [hr'])
  exact ⟨w',.head h1 hs,(Vv.put w r _).trans ht⟩
theorem y4v {fl base:Nat} {C:Cfg} {ρ:Rho} {b:Frame} {a:Act} {k:List Item} {css:List Frame} {w:World} {ma mb:List Nat} (hs:j1n P base C ρ b a k css w ma mb) (hro:C.ro=none) (eT:C.rnd=none) (htodo:C.todo=[]∨ ∃t,C.todo=.code .ret ::t)
  {m0:Mem} {n0:Nat} {ρ0:Rho} {w0:World} (hb:base=w0.heap.size) (he:Ev ρ0 ρ fl m0 n0 C.st.mem C.st.next w0 w) (cs0:List Frame):
  ∃w',Steps P (lone (b.atR a (Wi C.ro k)) cs0 w) (lone {b.atR {a with defers:=[]} k with mode:=.returning} cs0 w')∧Wq ρ C.st.env C.cx.n a.tmps∧Rel ρ C.st.mem C.st.next w'∧Ev ρ0 ρ fl m0 n0 C.st.mem C.st.next w0 w'∧y9g P base ρ C.cs C.lps css w' [] mb:=by
 have hrn:=hs.top.rnd;rw [eT] at hrn;have h1:step P (lone (b.atR a (Wi C.ro k)) cs0 w)=.next (lone {b.atR a k with mode:=.returning} cs0 w):=by
  rw [hro];have ht:=hs.top.todo;rcases htodo with e | ⟨t,e⟩
  ·rw [e] at ht;cases ht;exact stepR_end hrn
  ·rw [e] at ht;obtain ⟨k',rfl,_⟩:=ht.code;exact stepR_ret hrn
 have hnd:ma.Nodup:=(List.nodup_append.1 hs.rest.nodup).1;obtain ⟨w',h2,ht⟩:=z9w (P:=P) (cs:=cs0) ma {b.atR a k with mode:=.returning} w rfl hs.top.defers hnd fun r hr=>(hs.rest.marks r (by simp [hr])).2.2;refine ⟨w',.head h1 h2,hs.top.env,hs.rel.turned (fun r hr=>(hs.rest.marks r (by simp [hr])).2.1) ht,he.turned (fun r hr=>by rw [←hb];exact (hs.rest.marks r (by simp [hr])).1) ht,hs.rest.turned ht (List.nil_sublist _) (fun r hr hrm=> ?_) (fun r hr=>⟨_,(hs.rest.marks r (by simp [hr])).2.2⟩)⟩;rw [List.nil_append] at hrm;exact (List.nodup_append.1 hs.rest.nodup).2.2 r hr r hrm rfl
theorem x0e {fl base:Nat} {v:AVal} {st:St} {lps:Loops} {cs:List AFr} {C':Cfg} (h:popS v st lps cs=some C') (hcs: ∀af∈cs,af.cx.floor=fl) (hle:fl≤st.next):
  Fl fl C'∧C'.st.mem=st.mem∧C'.st.next=st.next∧C'.st.ob=st.ob∧(cs≠ [])∧ ∀(ρ:Rho) (css:List Frame) (w:World) (mb:List Nat) (u:Value),Ym ρ v u→y9g P base ρ cs lps css w [] mb→Rel ρ st.mem st.next w→
   ∃c css' b' a' k' ma' mb',css=c::css'∧c.finish u=b'.atR a' (Wi C'.ro k')∧j1n P base C' ρ b' a' k' css' w ma' mb'∧x8x b' css'=x8x c css':=by
 unfold popS at h;split at h
 ·rename_i cx ops i o l todo rnd rs env cs';split at h
  ·rename_i st' hp;obtain rfl:=Option.some.inj h;obtain ⟨p1,p2,p3,p4⟩:=Kn hp;refine ⟨⟨hcs _ (List.mem_cons_self ..),fun af haf=>hcs af (by simp [haf]),by rw [show st'.next=st.next from p2];exact hle⟩,p1,p2,p3,by simp,fun ρ css w mb u hv hr eG=> ?_⟩;obtain ⟨hc,hnd,hmk,hlp,hinj⟩:=hr;cases hc with
   | @cons _ b a k ms _ css' mss hf hl ht=>
    simp only at hf hl;refine ⟨_,css',b,a.put o.dst u,k,ms,mss,rfl,?_,⟨⟨hf.env.put hv ?_,by rw [Act.put_defers'];exact hf.defers,hf.todo,?_,hf.rnd⟩,hl,⟨ht,hnd,hmk,hlp,hinj⟩,?_⟩,by cases css' <;> rfl⟩
    ·obtain ⟨hro,_⟩:=hf.ro;have hi:ops.toList[i]? =some o:=by
      have:=congrArg (·[0]?) hro
      simpa using this.symm
     have hi':ops[i]? =some o:=(by simpa using hi);have hlt:i<ops.size:=(Array.getElem?_eq_some_iff.1 hi').1;have hd:(List.range ops.size).drop i=i::(List.range ops.size).drop (i+1):=by rw [List.drop_eq_getElem_cons (by simpa using hlt)];simp
     simp only [Wi,hd];rw [Frame.finish_atR,hi'];rfl
    ·rcases p4 with ⟨e,e2⟩ | ⟨d,e,hlt,e2⟩
     ·exact .inl ⟨e,e2⟩
     ·exact .inr ⟨d,e,hlt,e2⟩
    ·obtain ⟨hro,fH⟩:=hf.ro;refine ⟨?_,fH⟩;have:=congrArg List.tail hro
     simpa using this
    ·show Rel ρ st'.mem st'.next w
     rw [show st'.mem=st.mem from p1,show st'.next=st.next from p2];exact eG
  ·cases h
 ·rename_i cx j k rnd rs env cs';obtain rfl:=Option.some.inj h;refine ⟨⟨hcs _ (List.mem_cons_self ..),fun af haf=>hcs af (by simp [haf]),hle⟩,rfl,rfl,rfl,by simp,fun ρ css w mb u hv hr eG=> ?_⟩;obtain ⟨hc,hnd,hmk,hlp,hinj⟩:=hr;cases hc with
  | @cons _ b a k0 ms _ css' mss hf hl ht=>
   simp only at hf hl;have htd:=hf.todo;cases htd with
   | cons hx htl=>
    cases hx with
    | same _ hp=>cases hp
    | inR _ l hlj=>exact ⟨_,css',b,a,_,ms,mss,rfl,finish_atR_inRangeFunc l u,⟨⟨hf.env,hf.defers,.cons (.endR _ l hlj) htl,trivial,hf.rnd⟩,hl,⟨ht,hnd,hmk,hlp,hinj⟩,eG⟩,by cases css' <;> rfl⟩
 ·cases h
theorem w2j {b:Frame} {a:Act} {k:List Item} {cs:List Frame} {w:World} {ops:Array Oper} {i:Nat} {rest:List Nat} {o:Oper} {f:FuncId} {args:Array Value} (ho:ops[i]? =some o) (hnd: ∀c,o.op≠ .defer c) (hw:Region.wanted o (yielded ops a.tmps)=true)
  (hr:(execOp a.eval o).run P w=.ok (.enter f args) w):step P (lone (b.atR a (.inRegion ops (i::rest)::k)) cs w)=.next (lone (Frame.enter P f args .normal) (b.atR a (.inRegion ops (i::rest)::k)::cs) w):=by
 have hg:=stepGR_op (P:=P) (b:=b) (k:=k) (cs:=cs) (w:=w) (rest:=rest) ho hw;rw [Oper.semAt_eq _ _ _ hnd] at hg;exact step_lone_go (by rw [hg];simp [stepG.apply,hr,Frame.atR])
theorem w2i {b:Frame} {a:Act} {k:List Item} {cs:List Frame} {w:World} {ops:Array Oper} {i:Nat} {rest:List Nat} {o:Oper} {l:Nat} {f:FuncId} {tmps:Array Value} {assign body:Code} (ho:ops[i]? =some o) (hnd: ∀c,o.op≠ .defer c) (hw:Region.wanted o (yielded ops a.tmps)=true)
  (hr:(execOp a.eval o).run P w=.ok (.round l f tmps assign body) w):step P (lone (b.atR a (.inRegion ops (i::rest)::k)) cs w)=.next (lone (Frame.round l f tmps assign body .normal) (b.atR a (.inRegion ops (i::rest)::k)::cs) w):=by
 have hg:=stepGR_op (P:=P) (b:=b) (k:=k) (cs:=cs) (w:=w) (rest:=rest) ho hw;rw [Oper.semAt_eq _ _ _ hnd] at hg;exact step_lone_go (by rw [hg];simp [stepG.apply,hr,Frame.atR])
theorem z1x {ρ:Rho} {n:Nat}: ∀{ps:List Tmp} {args:List AVal} {env env':T AVal} {vals:List Value} {tmps:Array Value},y9q n ps args env=some env'→Wq ρ env n tmps→Vj (Ym ρ) args vals→
  ps.length=vals.length∧Wq ρ env' n ((ps.zip vals).foldl (fun t p=>t.setIfInBounds p.1 p.2) tmps)
 | [],[],env,env',vals,tmps,h,he,ha=>by cases ha;obtain rfl:=Option.some.inj h;exact ⟨rfl,he⟩
 | t::ps,x::args,env,env',vals,tmps,h,he,ha=>by
  cases ha with
  | @cons _ u _ vals hx ha=>
   unfold y9q at h;obtain ⟨hc,h⟩:=Yk h;have hlt:=Nat.le_of_ble_eq_true hc;have he':Wq ρ (T.set .undef env t x) n (tmps.setIfInBounds t u):=by have:=Wq.put (a:=⟨tmps,[]⟩) (dst:=some t) he hx (.inr ⟨t,rfl,hlt,rfl⟩);exact this
   obtain ⟨h1,h2⟩:=z1x h he' ha;exact ⟨by simp [h1],h2⟩
 | [],_::_,_,_,_,_,h,_,_=>by cases h
 | _::_,[],_,_,_,_,h,_,_=>by cases h
theorem Fl.enter {fl:Nat} {cx:Ctx} {ro:Option RegOps} {todo:List Item} {rnd:Option Nat} {rs:List ResultVar} {st:St} {cs:List AFr} {lps lps':Loops} (h:Fl fl ⟨cx,ro,todo,rnd,rs,st,cs,lps⟩) {n:Nat} {todo':List Item} {rnd':Option Nat} {rs':List ResultVar} {st':St} {ro':Option RegOps} {td:List Item} {e:T AVal} (hn:st.next≤st'.next):
  Fl fl ⟨⟨n,cx.floor,cx.sym⟩,none,todo',rnd',rs',st',⟨cx,ro',td,rnd,rs,e⟩::cs,lps'⟩:=
 ⟨h.cx,fun af haf=>by
  rcases List.mem_cons.1 haf with rfl | haf
  ·exact h.cx
  ·exact h.cs af haf,Nat.le_trans h.le hn⟩
theorem y8s {base:Nat} {ρ:Rho} {f:FuncId} {args:List AVal} {cx:Ctx} {ro':Option RegOps} {td:List Item} {rnd:Option Nat} {rs:List ResultVar} {e:T AVal} {st:St} {cs:List AFr} {lps:Loops} {C':Cfg} {b:Frame} {a:Act} {k:List Item} {css:List Frame} {w:World} {ma mb:List Nat} {vals:Array Value}
  (h:y8t P f args ⟨cx,ro',td,rnd,rs,e⟩ st cs lps=some C') (hf:w5t ρ cx ro' td rnd e b a k ma) (hlv:cs≠ []→v3a P rnd rs b) (hr:y9g P base ρ cs lps css w ma mb) (eG:Rel ρ st.mem st.next w) (eL:Vj (Ym ρ) args vals.toList):
  ∃fn body,P.funcs[f]? =some fn∧fn.body=some body∧C'=⟨⟨Nat.max fn.ntmps args.length,cx.floor,cx.sym⟩,none,[.code body],none,fn.results.toList,st.withEnv (z9i args 0 .leaf),⟨cx,ro',td,rnd,rs,e⟩::cs,lps⟩∧
   ∃b' a' k',Frame.enter P f vals .normal =b'.atR a' (Wi none k')∧j1n P base C' ρ b' a' k' (b.atR a (Wi ro' k)::css) w [] (ma++mb):=by
 unfold y8t at h;split at h
 ·rename_i fn hfn;split at h
  ·rename_i body hb;obtain rfl:=Option.some.inj h;refine ⟨fn,body,hfn,hb,rfl,⟨f, #[],[],[],.run,.normal,none⟩,{tmps:=vals++Array.replicate (fn.ntmps - vals.size) undef,defers:=[]},[.code body],?_,⟨⟨y4s eL fn.ntmps,rfl,.cons (.same _ rfl) .nil,trivial,rfl⟩,fun _=>⟨rfl,fun _=>⟨fn,hfn,rfl⟩⟩,?_,eG⟩⟩
   ·simp [Frame.enter,Frame.atR,hfn,hb,Wi]
   ·exact ⟨.cons hf hlv hr.cs,hr.nodup,hr.marks,hr.loops,hr.inj⟩
  ·cases h
 ·cases h
theorem z6m {ρ:Rho} {ops:Array Oper} {o:Oper} {cx:Ctx} {st st1:St} {e:Bool} (h:z1a ops o cx st=some (e,st1)):st1.mem=st.mem∧st1.next=st.next∧(st1.ob=true→st.ob=true∧ ∀{tmps:Array Value},Wq ρ st.env cx.n tmps→Wq ρ st1.env cx.n tmps∧Region.wanted o (yielded ops tmps)=e):=by obtain ⟨w1,w2,w3⟩:=z0b h;refine ⟨w1,w2,fun ho=>⟨(w3 ho).1,fun {tmps} he=>⟨he.congr fun t=>(w3 ho).2 t,Qw h ho he.size fun d _=>he.get d⟩⟩⟩
theorem x6b {ops:Array Oper} {i:Nat} {o:Oper} {l:List Oper} (h:o::l=ops.toList.drop i):ops[i]? =some o∧l=ops.toList.drop (i+1)∧(List.range ops.size).drop i=i::(List.range ops.size).drop (i+1):=by
 have hi:ops.toList[i]? =some o:=by
  have:=congrArg (·[0]?) h
  simpa using this.symm
 have hi':ops[i]? =some o:=by simpa using hi
 have hlt:i<ops.size:=(Array.getElem?_eq_some_iff.1 hi').1;refine ⟨hi',?_,?_⟩
 ·have:=congrArg List.tail h
  simpa using this
 ·rw [List.drop_eq_getElem_cons (by simpa using hlt)];simp
theorem z0s {ops:Array Oper} (h:z3u ops=true) {i:Nat} {o:Oper} (ho:ops[i]? =some o) (c:Call):o.op≠ .defer c:=by
 intro hc;have hm:o∈ops.toList:=by rw [Array.mem_toList_iff];exact Array.mem_of_getElem? ho
 have:=List.all_eq_true.1 h o hm;rw [hc] at this;cases this
theorem y5e {ρ:Rho} {st:St} {n:Nat} {a:Act} (he:Wq ρ st.env n a.tmps) (args:Array Operand):Vj (Ym ρ) (args.toList.map st.eval) (args.map a.eval).toList :=by rw [Array.toList_map];exact Vj.maps _ _ _ fun x _=>he.eval x
theorem x5f {ops:Array Oper} {m i:Nat} (hm:m≤ops.size) (h:i<m):(Xt ops m)[i]? =ops[i]? :=by
 unfold Xt;have h2:i<(ops.toList.take m).length :=by simp;omega
 rw [List.getElem?_toArray,List.getElem?_append_left h2,List.getElem?_take,if_pos h,Array.getElem?_toList]
theorem w6f {ops:Array Oper} {m i:Nat} (hm:m≤ops.size) (h:m≤i):(Xt ops m)[i]? =(ops[i]?).map stubOp:=by
 unfold Xt;have hl:(ops.toList.take m).length =m:=by simp;omega
 rw [List.getElem?_toArray,List.getElem?_append_right (by rw [hl];exact h),hl,List.getElem?_map,List.getElem?_drop,show m+(i - m)=i by omega,Array.getElem?_toList]
theorem y2v {ops:Array Oper} {m:Nat} (hm:m≤ops.size):(Xt ops m).size =ops.size:=by simp [Xt];omega
theorem z8m {ops:Array Oper} {m:Nat} (hm:m≤ops.size) (i:Nat):((Xt ops m)[i]?).map (·.after)=(ops[i]?).map (·.after):=by
 by_cases h:i<m
 ·rw [x5f hm h]
 ·rw [w6f hm (by omega)];cases ops[i]? <;> rfl
theorem w2h (md:Region.Mode) {ops:Array Oper} {m:Nat} (hm:m≤ops.size) (listed:Array Bool):Region.ready md (Xt ops m) listed=Region.ready md ops listed:=by unfold Region.ready;rw [y2v hm];refine List.filter_congr fun i _=> ?_;have h:=z8m hm i;cases h1:(Xt ops m)[i]? <;> cases h2:ops[i]? <;> rw [h1,h2] at h <;> simp at h ⊢;rw [h]
theorem x9q (md:Region.Mode) {ops:Array Oper} {m:Nat} (hm:m≤ops.size): ∀(fuel t:Nat) (listed:Array Bool) (acc:List Nat),Region.linearise.go md (Xt ops m) fuel t listed acc=Region.linearise.go md ops fuel t listed acc
 | 0,t,listed,acc=>rfl
 | fuel+1,t,listed,acc=>by
  have e:=w2h md hm listed;unfold Region.ready at e;simp only [Region.linearise.go];rw [e];split
  ·exact x9q md hm fuel _ _ _
  ·rfl
theorem w2q {ops:Array Oper} (fS: ∀(j:Nat) o,ops[j]? =some o→ ∀e∈o.after.toList,Region.binds .any e=true→e.on<j): ∀listed:Array Bool,listed.size=ops.size→ ∀i,i<ops.size→listed.getD i false=false→ ∃j,j∈Region.ready .any ops listed:=by
 intro listed hsz i
 induction i using Nat.strongRecOn with
 | _ i ih=>
  intro hi hl;by_cases h: ∃e∈(ops[i]).after.toList,Region.binds .any e=true∧listed.getD e.on false=false
  ·obtain ⟨e,he,hb,hf⟩:=h;have hlt:=fS i ops[i] (by simp [hi]) e he hb;exact ih e.on hlt (by omega) hf
  ·refine ⟨i,mem_ready.2 ⟨?_,ops[i],by simp [hi],fun e he hb=> ?_⟩⟩
   ·have:i<listed.size:=by omega
    simpa [this] using hl
   ·cases hf:listed.getD e.on false with
    | true=>rfl
    | false=>exact absurd ⟨e,Array.mem_toList_iff.2 he,hb,hf⟩ h
theorem w1c {ops:Array Oper} (fS: ∀(j:Nat) o,ops[j]? =some o→ ∀e∈o.after.toList,Region.binds .any e=true→e.on<j) (fuel t:Nat) (listed:Array Bool) (hsz:listed.size=ops.size) (hcl:z8k ops (fun i=>listed.getD i false)) {q:Nat} (hq:q<ops.size) (hl:listed.getD q false=false):
  ∃i x t',ops[i]? =some x∧listed.getD i false=false∧x1p (fun i=>listed.getD i false) x∧Region.linearise.go .any ops (fuel+1) t listed []=i::Region.linearise.go .any ops fuel t' (listed.setIfInBounds i true) []∧
   (listed.setIfInBounds i true).size =ops.size∧z8k ops (fun q=>(listed.setIfInBounds i true).getD q false)∧ ∀q,(listed.setIfInBounds i true).getD q false=(listed.getD q false||q == i):=by
 obtain ⟨j0,hj0⟩:=w2q fS listed hsz q hq hl;have hne:Region.ready .any ops listed≠ []:=fun e=>by rw [e] at hj0;cases hj0
 have hlt:t %(Region.ready .any ops listed).length <(Region.ready .any ops listed).length :=Nat.mod_lt _ (List.length_pos_iff.2 hne);have hgo:Region.linearise.go .any ops (fuel+1) t listed []=(match (Region.ready .any ops listed)[t %(Region.ready .any ops listed).length]? with
  | some i=>Region.linearise.go .any ops fuel (t / (Region.ready .any ops listed).length) (listed.setIfInBounds i true) [i]
  | none=>[].reverse):=rfl
 rw [hgo,List.getElem?_eq_getElem hlt];simp only;have hi:=List.getElem_mem hlt;generalize (Region.ready .any ops listed)[t %(Region.ready .any ops listed).length]=i at hi;obtain ⟨h1,x,hx,hr⟩:=mem_ready.1 hi;have hil:i<ops.size:=(Array.getElem?_eq_some_iff.1 hx).1;have hils:i<listed.size:=by omega
 have hif:listed.getD i false=false:=by simpa [hils] using h1
 rw [linearise_go_acc,List.reverse_singleton,List.singleton_append];have fP: ∀q,(listed.setIfInBounds i true).getD q false=(listed.getD q false||q == i):=fun q=>by
  by_cases hq:q=i
  ·subst hq;simp [hils]
  ·have:(q == i)=false:=by simp [hq]
   rw [this,Bool.or_false];simp [Array.getD_eq_getD_getElem?,Ne.symm hq]
 have eP:x1p (fun i=>listed.getD i false) x:=fun e he hb=>hr e (Array.mem_toList_iff.1 he) hb;refine ⟨i,x,_,hx,hif,eP,rfl,by simpa using hsz,fun j y hy hs e he hb=> ?_,fP⟩;simp only [fP] at hs ⊢;by_cases hji:j=i
 ·subst hji;rw [hx] at hy;obtain rfl:=Option.some.inj hy;have:=eP e he hb;simp only at this;rw [this];rfl
 ·have hs':listed.getD j false=true:=by simpa [hji] using hs
  have:=hcl j y hy hs' e he hb;simp only at this;rw [this];rfl
theorem w1b {ops:Array Oper} {m:Nat} (fS: ∀(j:Nat) o,ops[j]? =some o→ ∀e∈o.after.toList,Region.binds .any e=true→e.on<j) (hf: ∀j x,m≤j→ops[j]? =some x→ ∀i,i<j→y0p ops i x):
  ∀(fuel t j:Nat) (listed:Array Bool),listed.size=ops.size→z8k ops (fun i=>listed.getD i false)→m≤j→j+fuel=ops.size→(∀q,q<j→listed.getD q false=true)→(∀q,j≤q→listed.getD q false=false)→Region.linearise.go .any ops fuel t listed []=(List.range ops.size).drop j
 | 0,t,j,listed,hsz,hcl,hj,hn,h1,h2=>by rw [List.drop_eq_nil_of_le (by simp;omega)];rfl
 | fuel+1,t,j,listed,hsz,hcl,hj,hn,h1,h2=>by
  obtain ⟨i,x,t',hx,hif,hr,hgo,gD,hcl',fP⟩:=w1c fS fuel t listed hsz hcl (q:=j) (by omega) (h2 j (Nat.le_refl _));have hij: ¬i<j:=fun e=>by rw [h1 i e] at hif;cases hif
  have e:i=j:=by
   by_cases h:j<i
   ·have:listed.getD j false=true:=hf i x (by omega) hx j h _ hcl hr;rw [h2 j (Nat.le_refl _)] at this;cases this
   ·omega
  subst e;rw [hgo,w1b fS hf fuel t' (i+1) _ gD hcl' (by omega) (by omega) (fun q hq=>by
   rw [fP];by_cases e:q=i
   ·simp [e]
   ·rw [h1 q (by omega)];rfl) (fun q hq=>by
   rw [fP,h2 q (by omega)];simp;omega)]
  rw [List.drop_eq_getElem_cons (show i<(List.range ops.size).length by simp;omega)];simp
theorem v6k {ops:Array Oper} {m:Nat} (fS: ∀(j:Nat) o,ops[j]? =some o→ ∀e∈o.after.toList,Region.binds .any e=true→e.on<j) (hm:m<ops.size) (hf: ∀j x,m≤j→ops[j]? =some x→ ∀i,i<j→y0p ops i x):
  ∀(fuel t:Nat) (listed:Array Bool),listed.size=ops.size→z8k ops (fun i=>listed.getD i false)→(List.range ops.size).countP (fun i=> !listed.getD i false)=fuel→(∀q,m≤q→listed.getD q false=false)→
   ∃l,Region.linearise.go .any ops fuel t listed []=l++(List.range ops.size).drop m∧ ∀i∈l,i<m:=by
 intro fuel
 induction fuel with
 | zero=>intro t listed hsz _ hc hl;have:=List.countP_eq_zero.1 hc m (List.mem_range.2 hm);rw [hl m (Nat.le_refl _)] at this;simp at this
 | succ fuel ih=>
  intro t listed hsz hcl hc hl;obtain ⟨i,x,t',hx,hif,hr,hgo,gD,hcl',fP⟩:=w1c fS fuel t listed hsz hcl hm (hl m (Nat.le_refl _));have hil:i<ops.size:=(Array.getElem?_eq_some_iff.1 hx).1;have hc':(List.range ops.size).countP (fun q=> !(listed.setIfInBounds i true).getD q false)=fuel:=by have:=z2j (fun q=> !listed.getD q false) (fun q=> !(listed.setIfInBounds i true).getD q false) i ops.size (fun k hk=>by simp only [fP];simp [hk]) (by simp only [hif];rfl) (by simp only [fP];simp) hil;omega
  by_cases him:i<m
  ·obtain ⟨l,h2,h3⟩:=ih t' (listed.setIfInBounds i true) gD hcl' hc' (fun q hq=>by rw [fP,hl q hq];simp;omega);exact ⟨i::l,by rw [hgo,h2];rfl,fun q hq=>by
    rcases List.mem_cons.1 hq with rfl | hq
    ·exact him
    ·exact h3 q hq⟩
  ·have e:i=m:=by
    by_cases h:m<i
    ·have:listed.getD m false=true:=hf i x (by omega) hx m h _ hcl hr;rw [hl m (Nat.le_refl _)] at this;cases this
    ·omega
   subst e;have fJ: ∀q,q<i→listed.getD q false=true:=fun q hq=>hf i x (Nat.le_refl _) hx q hq _ hcl hr;refine ⟨[],?_,fun q hq=>by cases hq⟩;have hcount:fuel+1+i=ops.size:=by
    rw [←hc];have key: ∀n,i≤n→n≤ops.size→(List.range n).countP (fun q=> !listed.getD q false)+i=n:=by
     intro n
     induction n with
     | zero=>intro h _;simp;omega
     | succ n ihn=>
      intro h1 h2;rw [List.range_succ,List.countP_append];by_cases e:i≤n
      ·have:=ihn e (by omega);have e1: [n].countP (fun q=> !listed.getD q false)=1:=by rw [List.countP_cons,List.countP_nil,hl n e];rfl
       omega
      ·have hni:n+1=i:=(by omega);have h0:(List.range n).countP (fun q=> !listed.getD q false)=0:=List.countP_eq_zero.2 fun q hq=>by rw [fJ q (by have:=List.mem_range.1 hq;omega)];simp
       have e1: [n].countP (fun q=> !listed.getD q false)=0:=by rw [List.countP_cons,List.countP_nil,fJ n (by omega)];rfl
       omega
    exact key ops.size (by omega) (Nat.le_refl _)
   rw [List.nil_append];exact w1b fS hf (fuel+1) t i listed hsz hcl (Nat.le_refl _) (by omega) fJ hl
theorem y6i {b:Frame} {k:List Item} {cs:List Frame} {ops:Array Oper} {Q:Exit→Act→World→Prop} (hQ: ∀e a w,Q e a w→e=.normal) {m:Nat} (hm:m≤ops.size) (hnd:z3u ops=true)
  (hg: ∀i x g,i<m→ops[i]? =some x→x.guard=some g→g.1<m) {r:List Nat} (hr: ∀i∈r,m≤i): ∀(l:List Nat) (a:Act) (w:World),(∀i∈l,i<m)→wpOps P (Xt ops m) Q (l++r) a w→
   ∃a' w',Q .normal a' w'∧Steps P (lone (b.atR a (.inRegion ops (l++r)::k)) cs w) (lone (b.atR a' (.inRegion ops r::k)) cs w')
 | [],a,w,_,h=>by
  refine ⟨a,w,?_,Steps.refl _ _⟩;rw [List.nil_append] at h;clear hg
  induction r with
  | nil=>exact h
  | cons i r ih=>
   refine ih (fun q hq=>hr q (by simp [hq])) ?_;simp only [wpOps] at h;rw [w6f hm (hr i (by simp))] at h;cases ho:ops[i]? with
   | none=>rw [ho] at h;exact h
   | some o=>
    rw [ho] at h;simp only [Option.map_some] at h;have hw:Region.wanted (stubOp o) (yielded (Xt ops m) a.tmps)=true:=rfl;rw [if_pos hw] at h;rcases h with h | ⟨_,a0,w0,h0⟩
    ·have h:wpOps P (Xt ops m) Q r (a.put none (a.eval (.const (.bool true)))) w:=h;exact h
    ·exact absurd (hQ _ _ _ h0) (by simp)
 | i::l,a,w,hl,h=>by
  have him:=hl i (by simp);simp only [List.cons_append,wpOps] at h;rw [x5f hm him] at h;have hil:i<ops.size:=by omega
  obtain ⟨x,hx⟩: ∃x,ops[i]? =some x:=⟨ops[i],by simp [hil]⟩
  rw [hx] at h;simp only at h;have hy:Region.wanted x (yielded (Xt ops m) a.tmps)=Region.wanted x (yielded ops a.tmps):=by
   unfold Region.wanted;cases hgx:x.guard with
   | none=>rfl
   | some g=>obtain ⟨j,want⟩:=g;have hj:=hg i x _ him hx hgx;simp only at hj ⊢;unfold yielded;rw [x5f hm hj]
  rw [hy] at h;have h':if Region.wanted x (yielded ops a.tmps) then x.wp P a w (wpOps P (Xt ops m) Q (l++r)) Q else wpOps P (Xt ops m) Q (l++r) (a.put x.dst undef) w:=by
   by_cases hw:Region.wanted x (yielded ops a.tmps)=true
   ·simp only [hw,if_true] at h ⊢;rcases h with h | ⟨_,a0,w0,h0⟩
    ·exact h
    ·exact absurd (hQ _ _ _ h0) (by simp)
   ·simp only [hw,if_false,Bool.false_eq_true] at h ⊢;exact h
  obtain ⟨a1,w1,h1,s1⟩:=x0g (b:=b) (k:=k) (cs:=cs) (rest:=l++r) hQ hx (z0s hnd hx) h';obtain ⟨a',w',hR,hs⟩:=y6i hQ hm hnd hg hr l a1 w1 (fun q hq=>hl q (by simp [hq])) h1;exact ⟨a',w',hR,s1.trans hs⟩
theorem y6e {st:St} {ops:List Oper}: ∀(l:List Oper) (i:Nat) {m:Nat},y9i st ops l i=some m→i≤m∧m<i+l.length
 | [],i,m,h=>by cases h
 | o::l,i,m,h=>by
  unfold y9i at h;cases hy:v0n st ops o with
  | true=>rw [hy] at h;obtain rfl:=Option.some.inj h;simp
  | false=>rw [hy] at h;have:=y6e l (i+1) h;simp only [List.length_cons];omega
theorem w2g {ops:Array Oper} {st:St} {m:Nat} (h:u5j ops st=some m):m<ops.size∧z3u ops=true∧x3v (Xt ops m)=true∧(∀j x,m≤j→(Xt ops m)[j]? =some x→ ∀i,i<j→y0p (Xt ops m) i x)∧
  ∀i x g,i<m→ops[i]? =some x→x.guard=some g→g.1<m:=by
 unfold u5j at h;split at h
 ·rename_i m' hd;obtain ⟨hc,h⟩:=Yk h;obtain rfl:=Option.some.inj h;have hlt:=(y6e _ _ hd).2;rw [Nat.zero_add,Array.length_toList] at hlt;simp only [v9o,Bool.and_eq_true] at hc;obtain ⟨hnd,hdr,fJ,hgd⟩:=hc;refine ⟨hlt,hnd,hdr,fun j x hj hx i hi=> ?_,fun i x g hi hx hgx=> ?_⟩
  ·have hjl:j<ops.size:=by have:=(Array.getElem?_eq_some_iff.1 hx).1;rwa [y2v (by omega)] at this
   have:=List.all_eq_true.1 fJ j (List.mem_range.2 hjl);simp only [Bool.or_eq_true] at this;rcases this with h1 | h1
   ·have:=Nat.le_of_ble_eq_true h1;omega
   ·exact ((z6h hdr).bits j x hx i (List.all_eq_true.1 h1 i (List.mem_range.2 hi))).2
  ·have h2:=List.all_eq_true.1 hgd i (List.mem_range.2 hi);rw [hx] at h2;obtain ⟨dst,op,type,pos,after,guard⟩:=x;simp only at hgx;subst hgx;obtain ⟨j,want⟩:=g;exact Nat.le_of_ble_eq_true h2
 ·cases h
end
end Go.Am
namespace Go.Am
section
variable {P:Program}
theorem w2l {S:Specs} {Rc:Runner} (hN:z9s P) (hS:Zq P S) (hCI:w2a Rc) (hC:ROk P Rc) {fl:Nat} {cx:Ctx} {ops:Array Oper} {i:Nat} {o:Oper} {l:List Oper} {todo:List Item} {rnd:Option Nat} {rs:List ResultVar} {st:St} {cs:List AFr} {lps:Loops} {C':Cfg}
  (hfl:Fl fl ⟨cx,some (ops,i,o::l),todo,rnd,rs,st,cs,lps⟩) (h:w6g P S Rc cx ops i o l todo rnd rs st cs lps=some C'):Sim P fl ⟨cx,some (ops,i,o::l),todo,rnd,rs,st,cs,lps⟩ C':=by
 have plain: ∀st2,y0q P S Rc ops cx (false,o) st=some st2→Sim P fl ⟨cx,some (ops,i,o::l),todo,rnd,rs,st,cs,lps⟩ ⟨cx,some (ops,i+1,l),todo,rnd,rs,st2,cs,lps⟩:=by
  intro st2 h1;have hcx:cx.floor≤st.next:=by have:=hfl.le;have e:=hfl.cx;simp only at e this;omega
  have s1:=y6k hN hS hCI hC hcx h1;have e:=hfl.cx;simp only at e;refine ⟨⟨e,hfl.cs,Nat.le_trans hfl.le s1.inv.nxt⟩,by rw [←e];exact s1.inv,fun ho m0 n0 ρ0 w0 ρ b a k css w ma mb hs he cs0=> ?_⟩;obtain ⟨eK,hdf,htd,⟨hro,fH⟩,eT⟩:=hs.top;simp only at eK hdf htd hro eT;obtain ⟨ho_i,hl',hdrop⟩:=x6b hro;have key:=s1.does ho ρ a w st.eval eK.size (fun _ _=>rfl) (fun d _=>eK.get d) (fun y _=>eK.eval y) hs.rel
   (fun a' w'=> ∃ρ',a'.defers=a.defers∧Wq ρ' st2.env cx.n a'.tmps∧Rel ρ' st2.mem st2.next w'∧Ev ρ ρ' cx.floor st.mem st.next st2.mem st2.next w w') (fun e _ _=>e=.normal) (fun ρ' u w' eX fF hev=>by
    refine ⟨ρ',Act.put_defers' _ _ _,?_,fF,hev⟩;cases hdst:o.dst with
    | none=>exact ((eK.mono hev.ext).congr fun t=>s1.other ho t (by rw [hdst];simp))
    | some d=>
     refine ((eK.mono hev.ext).put (eX d hdst) (.inr ⟨d,rfl,s1.slot d hdst,rfl⟩)).congr fun t=> ?_;rw [T.get_set];split
     ·rename_i e;subst e;rfl
     ·rename_i e;exact s1.other ho t (by rw [hdst];intro h;exact e (Option.some.inj h).symm))
  obtain ⟨a',w',⟨ρ',hd',he',hr',hev⟩,eU⟩:=x0g (b:=b) (k:=k) (cs:=css++cs0) (rest:=(List.range ops.size).drop (i+1)) (fun e a w h=>h) ho_i (z0s fH ho_i) key;refine ⟨ρ',b,a',k,css,w',ma,mb,by rw [Wi,hdrop];exact eU,⟨⟨he',by rw [hd'];exact hdf,htd.mono fun _ _=>w2b.mono hev.ext,⟨hl',fH⟩,?_⟩,hs.lv,hs.rest.ev hev,hr'⟩,he.trans (by rw [←e];exact hev),rfl⟩;exact ((⟨eK,hdf,htd,⟨hro,fH⟩,eT⟩:w5t ρ cx (some (ops,i,o::l)) todo rnd st.env b a k ma).mono hev.ext).rnd
 unfold w6g at h;split at h
 ·rename_i st1 hw;split at h
  ·-- a function is entered
   rename_i g args eV;obtain ⟨w1,w2,w3⟩:=z6m (ρ:=⟨fun _=>none,fun _=>none,fun _=>none⟩) hw;have hCeq: ∃fn body,P.funcs[g]? =some fn∧fn.body=some body∧C'=⟨⟨Nat.max fn.ntmps args.length,cx.floor,cx.sym⟩,none,[.code body],none,fn.results.toList,st1.withEnv (z9i args 0 .leaf),⟨cx,some (ops,i,o::l),todo,rnd,rs,st1.env⟩::cs,lps⟩:=by
    unfold y8t at h;split at h
    ·rename_i fn hfn;split at h
     ·rename_i body hb;exact ⟨fn,body,hfn,hb,(Option.some.inj h).symm⟩
     ·cases h
    ·cases h
   obtain ⟨fn,body,hfn,hb,hCe⟩:=hCeq;have gF:C'.st.mem=st.mem:=by rw [hCe];exact w1
   have hnext:C'.st.next=st.next:=by rw [hCe];exact w2
   refine ⟨by rw [hCe];exact hfl.enter (Nat.le_of_eq w2.symm),Wp.same gF hnext fun ho=>(w3 (by rw [hCe] at ho;exact ho)).1,fun ho m0 n0 ρ0 w0 ρ b a k css w ma mb hs he cs0=> ?_⟩;have ho1:st1.ob=true:=by rw [hCe] at ho;exact ho
   obtain ⟨eK,hdf,htd,⟨hro,fH⟩,eT⟩:=hs.top;simp only at eK hdf htd hro eT;obtain ⟨ho_i,hl',hdrop⟩:=x6b hro;obtain ⟨_,_,w3'⟩:=z6m (ρ:=ρ) hw;obtain ⟨fT,hwt⟩:=(w3' ho1).2 eK;have hexec: ∃vals,(execOp a.eval o).run P w=.ok (.enter g vals) w∧Vj (Ym ρ) args vals.toList:=by
    obtain ⟨dst,op,type,pos,after,guard⟩:=o;simp only at eV ⊢;unfold callee at eV;split at eV
    ·rename_i f cargs argTypes;split at eV
     ·rename_i g' caps hg;split at eV
      ·cases eV
      ·simp only [Option.some.injEq,Sum.inl.injEq,Prod.mk.injEq] at eV;obtain ⟨rfl,rfl⟩:=eV;have hf:=fT.eval f;rw [hg] at hf;generalize hw':a.eval f=u at hf;cases hf with
       | fn _ _ cvs hl hh=>have:=z1n hN hfn (by rw [hb];rfl) (cargs.map a.eval++cvs) w;refine ⟨cargs.map a.eval++cvs,by simp [execOp,resolve,Deferred.ofValue,hw',invoke,this],?_⟩;rw [Array.toList_append];exact Vj.append (y5e fT cargs) (Vj.of (by simpa using hl) fun i h1 h2=>by simpa using hh i h1 (by simpa using h2))
     ·rename_i g' first hg
      split at eV
      ·cases eV
      ·simp only [Option.some.injEq,Sum.inl.injEq,Prod.mk.injEq] at eV;obtain ⟨rfl,rfl⟩:=eV;have hf:=fT.eval f;rw [hg] at hf;generalize hw':a.eval f=u at hf;cases hf with
       | fnb _ _ cvs hl hh=>have:=z1n hN hfn (by rw [hb];rfl) (cvs++cargs.map a.eval) w;refine ⟨cvs++cargs.map a.eval,by simp [execOp,resolve,Deferred.ofValue,hw',invoke,this],?_⟩;rw [Array.toList_append];exact Vj.append (Vj.of (by simpa using hl) fun i h1 h2=>by simpa using hh i h1 (by simpa using h2)) (y5e fT cargs)
     ·cases eV
     ·cases eV
    ·cases eV
   obtain ⟨vals,hex,eL⟩:=hexec;have fE:=w2j (b:=b) (k:=k) (cs:=css++cs0) (rest:=(List.range ops.size).drop (i+1)) ho_i (z0s fH ho_i) hwt hex;obtain ⟨_,_,_,_,_,b',a',k',hen,hsr⟩:=y8s h (⟨fT,hdf,htd,⟨hro,fH⟩,eT⟩) hs.lv hs.rest (by rw [w1,w2];exact hs.rel) eL;refine ⟨ρ,b',a',k',_,w,_,_,.one ?_,hsr,by rw [gF,hnext];exact he,by cases css <;> rfl⟩;rw [show C'.ro=none by rw [hCe],←hen];simp only [Wi,hdrop];exact fE
  ·-- a round is entered
   rename_i j args eV;obtain ⟨w1,w2,w3⟩:=z6m (ρ:=⟨fun _=>none,fun _=>none,fun _=>none⟩) hw;unfold u1a at h;split at h
   ·rename_i lst lpend ln lenv lparams lassign lbody hlg;split at h
    ·rename_i env' hsa;obtain rfl:=Option.some.inj h;refine ⟨hfl.enter (Nat.le_of_eq w2.symm),Wp.same w1 w2 fun ho=>(w3 ho).1,fun ho m0 n0 ρ0 w0 ρ b a k css w ma mb hs he cs0=> ?_⟩;have ho1:st1.ob=true:=ho;obtain ⟨eK,hdf,htd,⟨hro,fH⟩,eT⟩:=hs.top;simp only at eK hdf htd hro eT;obtain ⟨ho_i,hl',hdrop⟩:=x6b hro;obtain ⟨_,_,w3'⟩:=z6m (ρ:=ρ) hw;obtain ⟨fT,hwt⟩:=(w3' ho1).2 eK;obtain ⟨lr,hlp,gG,hsp,ltmps,lfn,ld,fY,fU⟩:=hs.rest.loops j _ hlg;simp only at fY fU;have hexec: ∃vals:Array Value,Vj (Ym ρ) args vals.toList∧(execOp a.eval o).run P w=.ok (.round lr lfn ((lparams.toArray.zip vals).foldl (fun tmps (t,x)=>tmps.setIfInBounds t x) ltmps) lassign lbody) w:=by
      obtain ⟨dst,op,type,pos,after,guard⟩:=o;simp only at eV ⊢;unfold callee at eV;split at eV
      ·rename_i f cargs argTypes;split at eV
       ·split at eV <;> cases eV
       ·split at eV <;> cases eV
       ·rename_i j' hg;simp only [Option.some.injEq,Sum.inr.injEq,Prod.mk.injEq] at eV;obtain ⟨rfl,rfl⟩:=eV;have hf:=fT.eval f;rw [hg] at hf;generalize hw':a.eval f=u at hf;cases hf with
        | yld _ l' hl'=>rw [hlp] at hl';obtain rfl:=Option.some.inj hl';have hca:=y5e fT cargs;obtain ⟨eH,_⟩:=z1x hsa fU hca;refine ⟨cargs.map a.eval,hca,?_⟩;have:=run_yield (P:=P) (args:=cargs.map a.eval) fY (by simpa using eH.symm);simp [execOp,resolve,Deferred.ofValue,hw',invoke,this]
       ·cases eV
      ·cases eV
     obtain ⟨vals,eL,hex⟩:=hexec;obtain ⟨_,henv'⟩:=z1x hsa fU eL;have fE:=w2i (b:=b) (k:=k) (cs:=css++cs0) (rest:=(List.range ops.size).drop (i+1)) ho_i (z0s fH ho_i) hwt hex;refine ⟨ρ,⟨lfn, #[],[],[],.run,.normal,some lr⟩,{tmps:=(lparams.toArray.zip vals).foldl (fun tmps (t,x)=>tmps.setIfInBounds t x) ltmps,defers:=[]},[.code lassign,.beginRound,.code lbody],b.atR a (Wi (some (ops,i,o::l)) k)::css,w,[],ma++mb,.one ?_,⟨⟨?_,rfl,.cons (.same _ rfl) (.cons (.same _ rfl) (.cons (.same _ rfl) .nil)),trivial,⟨rfl,lr,hlp,rfl⟩⟩,fun _=>⟨rfl,fun h0=>by cases h0⟩,?_,by rw [show (st1.withEnv env').mem =st.mem from w1,show (st1.withEnv env').next =st.next from w2];exact hs.rel⟩,by rw [show (st1.withEnv env').mem =st.mem from w1,show (st1.withEnv env').next =st.next from w2];exact he,by cases css <;> rfl⟩
     ·simp only [Wi,hdrop];exact fE
     ·have:(lparams.toArray.zip vals).foldl (fun tmps (t,x)=>tmps.setIfInBounds t x) ltmps=(lparams.zip vals.toList).foldl (fun t p=>t.setIfInBounds p.1 p.2) ltmps:=by rw [←Array.foldl_toList];simp
      simp only [this];exact henv'
     ·exact ⟨.cons ⟨fT,hdf,htd,⟨hro,fH⟩,eT⟩ hs.lv hs.rest.cs,hs.rest.nodup,hs.rest.marks,hs.rest.loops,hs.rest.inj⟩
    ·cases h
   ·cases h
  ·split at h
   ·rename_i st2 hop;obtain rfl:=Option.some.inj h;exact plain st2 (by unfold y0q;rw [hw];exact hop)
   ·cases h
 ·rename_i st1 hw;split at h
  ·rename_i st2 hp;obtain rfl:=Option.some.inj h;exact plain st2 (by unfold y0q;rw [hw];exact hp)
  ·cases h
 ·cases h
end
end Go.Am
namespace Go.Am
section
variable {P:Program}
theorem y5w.item {ρ:Rho} {x:Item} {t k:List Item} (hx:Qo x=true) (h:y5w ρ (x::t) k): ∃k',k=x::k'∧y5w ρ t k':=by
 cases h with
 | cons h ht=>
  cases h with
  | same _ _=>exact ⟨_,rfl,ht⟩
  | inR j l e=>cases hx
  | endR j l e=>cases hx
theorem y4b {fl:Nat} {cx:Ctx} {todo:List Item} {rnd:Option Nat} {rs:List ResultVar} {st:St} {cs:List AFr} {lps:Loops} {jump:Option Code} {C':Cfg} (hfl:Fl fl ⟨cx,none,todo,rnd,rs,st,cs,lps⟩)
  (h:x3d P rnd rs st cs lps jump=some C') (hj:(todo=[]∧jump=none)∨(∃t,todo=.code .ret ::t∧jump=some .ret)∨(∃id t,todo=.code (.exit id)::t∧exitTo id t=none∧jump=some (.exit id)∧rnd.isSome=true)):
  Sim P fl ⟨cx,none,todo,rnd,rs,st,cs,lps⟩ C':=by
 unfold x3d at h;split at h
 ·split at h
  ·rename_i vs hvs;obtain ⟨hfl',hm,hn,hob,hne,key⟩:=x0e (P:=P) (base:=0) h hfl.cs hfl.le;refine ⟨hfl',Wp.same hm hn fun ho=>by rw [←hob];exact ho,fun ho m0 n0 ρ0 w0 ρ b a k css w ma mb hs he cs0=> ?_⟩;obtain ⟨_,_,_,_,_,key⟩:=x0e (P:=P) (base:=w0.heap.size) h hfl.cs hfl.le;have htd:todo=[]∨ ∃t,todo=.code .ret ::t:=by
    rcases hj with ⟨e,_⟩ | ⟨t,e,_⟩ | ⟨_,_,_,_,_,e⟩
    ·exact .inl e
    ·exact .inr ⟨t,e⟩
    ·cases e
   obtain ⟨w',eU,eK,eG,hev,eZ⟩:=y4v hs rfl rfl htd rfl he (css++cs0);obtain ⟨hk,hfn⟩:=hs.lv hne;obtain ⟨fn,hfn,hrs⟩:=hfn rfl;simp only at hrs hfn;obtain ⟨u,hu,gI⟩:=z2b (fn:=fn) eK eG (by rw [hrs];exact hvs);obtain ⟨c,css',b',a',k',ma',mb',rfl,hfin,hsr,hbot⟩:=key ρ css w' mb u hu eZ eG;refine ⟨ρ,b',a',k',css',w',ma',mb',eU.trans (.one ?_),hsr,by rw [hm,hn];exact hev,by rw [hbot];rfl⟩;rw [←hfin];exact step_leave_returned (fr:={b.atR {a with defers:=[]} k with mode:=.returning}) ⟨rfl,rfl,hk,fn,hfn,gI⟩
  ·cases h
 ·rename_i j;split at h
  ·rename_i lst lpend ln lenv lparams lassign lbody hlg;obtain ⟨hfl',hm,hn,hob,hne,_⟩:=x0e (P:=P) (base:=0) h hfl.cs hfl.le;refine ⟨hfl',Wp.same hm hn fun ho=>by rw [←hob];exact ho,fun ho m0 n0 ρ0 w0 ρ b a k css w ma mb hs he cs0=> ?_⟩;obtain ⟨_,_,_,_,_,key⟩:=x0e (P:=P) (base:=w0.heap.size) h hfl.cs hfl.le;obtain ⟨rfl,lr0,hlp0,hro⟩:=hs.top.rnd;obtain ⟨lr,hla⟩:=hs.rest.loops j _ hlg;have hla':=hla;obtain ⟨hlp,gG,hsp,ltmps,lfn,ld,fY,fU⟩:=hla;rw [hlp] at hlp0;obtain rfl:=Option.some.inj hlp0;have eI:=run_endRound (P:=P) jump fY;have hlst:(if jump.isNone then LoopState.ready else LoopState.done)=x3h jump:=by cases jump <;> rfl
   rw [hlst] at eI;have eZ:=hs.rest.record (w':=w.putObj lr (.loop ⟨x3h jump,jump,lfn,ltmps,lparams.toArray,lassign,lbody,ld⟩)) hlg hla' (L':=⟨x3h jump,jump,ln,lenv,lparams,lassign,lbody⟩)
    ⟨hlp,gG,hsp.turned (Vv.put _ _ _),ltmps,lfn,ld,World.putObj_heap_same hsp.1,fU⟩ (Vv.put _ _ _)
   obtain ⟨c,css',b',a',k',ma',mb',rfl,hfin,hsr,hbot⟩:=key ρ css _ mb (.bool jump.isNone) (.bool _) eZ (hs.rel.turned (fun r hr=>by rw [List.mem_singleton.1 hr];exact hsp) (Vv.put _ _ _));have hev:=he.turned (m:=[lr]) (fun r hr=>by rw [List.mem_singleton.1 hr];exact gG) (Vv.put w lr (.loop ⟨x3h jump,jump,lfn,ltmps,lparams.toArray,lassign,lbody,ld⟩));refine ⟨ρ,b',a',k',css',_,ma',mb',.one ?_,hsr,by rw [hm,hn];exact hev,by rw [hbot];rfl⟩;obtain ⟨hk,_⟩:=hs.lv hne;rw [←hfin];have htd:=hs.top.todo;rcases hj with ⟨rfl,rfl⟩ | ⟨t,rfl,rfl⟩ | ⟨id,t,rfl,hx,rfl,_⟩
   ·cases htd;exact stepR_round_end hro hk eI
   ·obtain ⟨k',rfl,_⟩:=htd.code;exact stepR_round_ret hro hk eI
   ·obtain ⟨k',rfl,ht⟩:=htd.code;exact stepR_round_exit hro hk ((ht.exit id).2 hx) eI
  ·cases h
theorem x1w {S:Specs} {Rc:Runner} (hN:z9s P) (hmx:P.follows .mixedOrders =true) (hS:Zq P S) (hCI:w2a Rc) (hC:ROk P Rc) {fl:Nat} {C C':Cfg} (hfl:Fl fl C) (h:w2k P S Rc C=some C'):Sim P fl C C':=by
 unfold w2k at h;split at h
 ·-- a region's end
  rename_i ops i todo rnd rs st cs lps;obtain rfl:=Option.some.inj h;refine ⟨⟨hfl.cx,hfl.cs,hfl.le⟩,Wp.refl _ _,fun ho m0 n0 ρ0 w0 ρ b a k css w ma mb hs he cs0=> ?_⟩;obtain ⟨eK,hdf,htd,⟨hro,fH⟩,eT⟩:=hs.top;refine ⟨ρ,b,a,k,css,w,ma,mb,.one ?_,⟨⟨eK,hdf,htd,trivial,eT⟩,hs.lv,hs.rest,hs.rel⟩,he,rfl⟩;have hge:ops.size≤i:=by have:=congrArg List.length hro;simp at this;omega
  have:(List.range ops.size).drop i=[]:=List.drop_eq_nil_of_le (by simpa using hge);simp only [Wi,this];exact stepR_region_end
 ·exact w2l hN hS hCI hC hfl h
 ·rename_i cx todo rnd rs st cs lps;split at h
  ·exact y4b hfl h (.inl ⟨rfl,rfl⟩)
  ·exact y4b hfl h (.inr (.inl ⟨_,rfl,rfl⟩))
  ·obtain rfl:=Option.some.inj h;exact Sim.move hfl fun ρ k hk=>by obtain ⟨k',rfl,ht⟩:=hk.code;exact ⟨k',ht,fun b a css w=>stepR_skip⟩
  ·obtain rfl:=Option.some.inj h;exact Sim.move hfl fun ρ k hk=>by obtain ⟨k',rfl,ht⟩:=hk.code;exact ⟨k',ht,fun b a css w=>stepR_label⟩
  ·obtain rfl:=Option.some.inj h;exact Sim.move hfl fun ρ k hk=>by obtain ⟨k',rfl,ht⟩:=y5w.item rfl hk;exact ⟨k',ht,fun b a css w=>stepR_inBlock⟩
  ·obtain rfl:=Option.some.inj h;exact Sim.move hfl fun ρ k hk=>by obtain ⟨k',rfl,ht⟩:=y5w.item rfl hk;exact ⟨k',ht,fun b a css w=>step_lone_go (by simp [stepG,stepG.exec,Frame.atR])⟩
  ·obtain rfl:=Option.some.inj h;exact Sim.move hfl fun ρ k hk=>by obtain ⟨k',rfl,ht⟩:=hk.code;exact ⟨_,.cons (.same _ rfl) (.cons (.same _ rfl) ht),fun b a css w=>stepR_seq⟩
  ·-- a test
   rename_i c x y k0;split at h
   ·rename_i v hv;split at h;rename_i e st1 ht;obtain rfl:=Option.some.inj h;obtain ⟨t1,t2,t3,t4⟩:=y2t ht;refine ⟨⟨hfl.cx,hfl.cs,by have:=hfl.le;simp only at this ⊢;omega⟩,Wp.same t2 t3 fun ho=>(t4 ho).2,fun ho m0 n0 ρ0 w0 ρ b a k css w ma mb hs he cs0=> ?_⟩;obtain ⟨rfl,_⟩:=t4 ho;obtain ⟨eK,hdf,htd,hro,eT⟩:=hs.top;obtain ⟨k',rfl,htl⟩:=htd.code;have hc:=eK.eval c;rw [hv] at hc;have hev:a.eval c=.bool e:=by generalize a.eval c=u at hc;cases hc;rfl
    refine ⟨ρ,b,a,_,css,w,ma,mb,.one (stepR_cond hev),⟨⟨by rw [t1];exact eK,hdf,.cons ?_ htl,trivial,eT⟩,hs.lv,hs.rest,by rw [t2,t3];exact hs.rel⟩,by rw [t2,t3];exact he,rfl⟩;cases e <;> exact .same _ rfl
   ·cases h
  ·obtain rfl:=Option.some.inj h;exact Sim.move hfl fun ρ k hk=>by obtain ⟨k',rfl,ht⟩:=hk.code;exact ⟨_,.cons (.same _ rfl) (.cons (.same _ rfl) ht),fun b a css w=>stepR_block⟩
  ·obtain rfl:=Option.some.inj h;exact Sim.move hfl fun ρ k hk=>by obtain ⟨k',rfl,ht⟩:=hk.code;exact ⟨_,.cons (.same _ rfl) (.cons (.same _ rfl) ht),fun b a css w=>step_lone_go (by simp [stepG,stepG.exec,Frame.atR])⟩
  ·obtain rfl:=Option.some.inj h;exact Sim.move hfl fun ρ k hk=>by obtain ⟨k',rfl,ht⟩:=hk.code;exact ⟨_,.cons (.same _ rfl) (.cons (.same _ rfl) ht),fun b a css w=>stepR_loop⟩
  ·obtain rfl:=Option.some.inj h;exact Sim.move hfl fun ρ k hk=>by obtain ⟨k',rfl,ht⟩:=y5w.item rfl hk;exact ⟨_,.cons (.same _ rfl) (.cons (.same _ rfl) ht),fun b a css w=>stepR_inLoop⟩
  ·-- an exit
   rename_i id k0;split at h
   ·rename_i k1 hx;obtain rfl:=Option.some.inj h;exact Sim.move hfl fun ρ k hk=>by obtain ⟨k',rfl,ht⟩:=hk.code;obtain ⟨r',h1,h2⟩:=(ht.exit id).1 _ hx;exact ⟨r',h2,fun b a css w=>stepR_exit h1⟩
   ·rename_i hx;split at h
    ·exact y4b hfl h (.inr (.inr ⟨id,k0,rfl,hx,rfl,rfl⟩))
    ·cases h
  ·-- a region in the order of the text
   rename_i id ops k0;obtain ⟨fH,h⟩:=Yk h;obtain rfl:=Option.some.inj h;refine ⟨⟨hfl.cx,hfl.cs,hfl.le⟩,Wp.refl _ _,fun ho m0 n0 ρ0 w0 ρ b a k css w ma mb hs he cs0=> ?_⟩;obtain ⟨eK,hdf,htd,hro,eT⟩:=hs.top;obtain ⟨k',rfl,htl⟩:=htd.code;exact ⟨ρ,b,a,k',css,w,ma,mb,.one stepR_region,⟨⟨eK,hdf,htl,⟨rfl,fH⟩,eT⟩,hs.lv,hs.rest,hs.rel⟩,he,rfl⟩
  ·-- a region that draws its order
   rename_i id ops k0;split at h
   ·-- it hands out a round
    rename_i m hty;split at h
    ·rename_i st1 hop;obtain rfl:=Option.some.inj h;obtain ⟨hm,fH,fB,hfor,hgd⟩:=w2g hty;have hm':=Nat.le_of_lt hm;have hi:=y3r hCI _ _ _ _ hop;have e:=hfl.cx;simp only at e;have hcx:cx.floor≤st.next:=by have:=hfl.le;simp only at this;omega
     refine ⟨⟨e,hfl.cs,Nat.le_trans hfl.le hi.nxt⟩,by rw [←e];exact hi,fun ho m0 n0 ρ0 w0 ρ b a k css w ma mb hs he cs0=> ?_⟩;obtain ⟨eK,hdf,htd,hro,eT⟩:=hs.top;obtain ⟨k',rfl,htl⟩:=htd.code;have hw:=z7l hN hS hCI hC hcx fB hop ho hdf eK (hs.rel.drawn (w.drawn+1));have hw2:=wpAny_sound (Xt ops m).size (w.tape w.drawn (.order b.fn id)) _ a _ hw;rw [x9q _ hm',y2v hm'] at hw2;have back: ∀(j:Nat) x,ops[j]? =some x→ ∃y,(Xt ops m)[j]? =some y∧y.after=x.after:=fun j x hx=>by
      have hsa:=z8m hm' j;rw [hx] at hsa;cases hsx:(Xt ops m)[j]? with
      | none=>rw [hsx] at hsa;cases hsa
      | some y=>rw [hsx] at hsa;exact ⟨y,rfl,by simpa using hsa⟩
     have fS: ∀(j:Nat) x,ops[j]? =some x→ ∀e∈x.after.toList,Region.binds .any e=true→e.on<j:=fun j x hx e he hb=>by obtain ⟨y,hy,hya⟩:=back j x hx;exact (z6h fB).ord j y hy e (by rw [hya];exact he) hb
     have hcl0: ∀S,z8k ops S→z8k (Xt ops m) S:=fun S hc j y hy hS e he hb=>by
      have hsa:=z8m hm' j;rw [hy] at hsa;cases hsx:ops[j]? with
      | none=>rw [hsx] at hsa;cases hsa
      | some x=>rw [hsx] at hsa;simp only [Option.map_some,Option.some.injEq] at hsa;exact hc j x hsx hS e (by rw [←hsa];exact he) hb
     have hfor': ∀j x,m≤j→ops[j]? =some x→ ∀i,i<j→y0p ops i x:=fun j x hj hx i hij S hc hr=>by obtain ⟨y,hy,hya⟩:=back j x hx;exact hfor j y hj hy i hij S (hcl0 S hc) fun e he hb=>hr e (by rw [←hya];exact he) hb
     have fV: ∀i,(Array.replicate ops.size false).getD i false=false:=fun i=>by by_cases hi:i<ops.size <;> simp [hi]
     obtain ⟨l,hl,hlm⟩:=v6k fS hm hfor' ops.size (w.tape w.drawn (.order b.fn id)) (Array.replicate ops.size false) (by simp) (fun j x hx hS=>by simp only [fV] at hS;cases hS) (by
      rw [List.countP_eq_length.2]
      ·simp
      ·intro i _;simp only [fV];rfl) (fun q _=>fV q)
     rw [hl] at hw2;obtain ⟨a',w',⟨_,hd',ρ',q1,q2,q3⟩,eU⟩:=y6i (b:=b) (k:=k') (cs:=css++cs0) (fun e a w hq=>hq.1) hm' fH hgd (r:=(List.range ops.size).drop m) (fun i hi=>by
      obtain ⟨n,hn,rfl⟩:=List.getElem_of_mem hi;simp) l a _ hlm hw2
     have hev:=q3.drawn;refine ⟨ρ',b,a',k',css,w',ma,mb,.head stepR_region_draw ?_,⟨⟨q1,hd',htl.mono fun _ _=>w2b.mono hev.ext,⟨rfl,fH⟩,?_⟩,hs.lv,hs.rest.ev hev,q2⟩,he.trans (by rw [←e];exact hev),rfl⟩
     ·simp only [Region.schedule,hmx,Bool.true_or,if_true,Wi];rw [Region.linearise,hl];exact eU
     ·exact ((⟨eK,hdf,htd,hro,eT⟩:w5t ρ cx none _ rnd st.env b a _ ma).mono hev.ext).rnd
    ·cases h
   obtain ⟨hc,h⟩:=Yk h;simp only [Bool.and_eq_true] at hc;obtain ⟨fB,fH⟩:=hc;split at h
   ·rename_i st1 hop;obtain rfl:=Option.some.inj h;have hi:=y3r hCI _ _ _ _ hop;have e:=hfl.cx;simp only at e;have hcx:cx.floor≤st.next:=by have:=hfl.le;simp only at this;omega
    refine ⟨⟨e,hfl.cs,Nat.le_trans hfl.le hi.nxt⟩,by rw [←e];exact hi,fun ho m0 n0 ρ0 w0 ρ b a k css w ma mb hs he cs0=> ?_⟩;obtain ⟨eK,hdf,htd,hro,eT⟩:=hs.top;obtain ⟨k',rfl,htl⟩:=htd.code;have hw:=z7l hN hS hCI hC hcx fB hop ho hdf eK (hs.rel.drawn (w.drawn+1));have hw2:=wpAny_sound ops.size (w.tape w.drawn (.order b.fn id)) _ a _ hw;obtain ⟨a',w',⟨hd',ρ',q1,q2,q3⟩,eU⟩:=y3q (b:=b) (k:=k') (cs:=css++cs0) (fun e a w hq=>hq) fH _ _ _ hw2;have hev:=q3.drawn;refine ⟨ρ',b,a',k',css,w',ma,mb,.head stepR_region_draw ?_,⟨⟨q1,hd',htl.mono fun _ _=>w2b.mono hev.ext,trivial,?_⟩,hs.lv,hs.rest.ev hev,q2⟩,he.trans (by rw [←e];exact hev),rfl⟩
    ·simp only [Region.schedule,hmx,Bool.true_or,if_true];exact eU
    ·exact ((⟨eK,hdf,htd,hro,eT⟩:w5t ρ cx none _ rnd st.env b a _ ma).mono hev.ext).rnd
   ·cases h
  ·-- a loop over a function
   rename_i f params assign body k0;split at h
   ·rename_i g caps hg;obtain ⟨env,mem,next,orc,ob⟩:=st;simp only [St.nextId] at h;obtain ⟨hrk,h⟩:=Yk h;have hCeq: ∃fn fbody,P.funcs[g]? =some fn∧fn.body=some fbody∧C'=⟨⟨Nat.max fn.ntmps (AVal.yld next::caps).length,cx.floor,cx.sym⟩,none,[.code fbody],none,fn.results.toList,St.withEnv ⟨env,mem,next+1,orc,ob⟩ (z9i (AVal.yld next::caps) 0 .leaf),⟨cx,none,.inRangeFunc next::k0,rnd,rs,env⟩::cs,w5o lps next (some ⟨.ready,none,cx.n,env,params.toList,assign,body⟩)⟩:=by
     unfold y8t at h;split at h
     ·rename_i fn hfn;split at h
      ·rename_i fbody hb;exact ⟨fn,fbody,hfn,hb,(Option.some.inj h).symm⟩
      ·cases h
     ·cases h
    obtain ⟨fn,fbody,hfn,hb,hCe⟩:=hCeq;refine ⟨by rw [hCe];exact hfl.enter (Nat.le_succ _),?_,fun ho m0 n0 ρ0 w0 ρ b a k css w ma mb hs he cs0=> ?_⟩
    ·rw [hCe];exact ⟨Nat.le_succ _,fun hbd x hx=>hbd x (Nat.le_of_succ_le hx),fun _ _ _=>rfl,fun ho=>ho⟩
    obtain ⟨eK,hdf,htd,hro,eT⟩:=hs.top;obtain ⟨k',rfl,htl⟩:=htd.code;have eG:=hs.rel;simp only at eK eG he eT hdf htl;have lay: ∃l mk w1 d,(Instr.enterLoop b.fn a.tmps params assign body b.roundOf).run P w=.ok (l,(mk:List Nat).map u8a) w1∧w1.heap[l]? =some (.loop ⟨.ready,none,b.fn,a.tmps,params,assign,body,d⟩)∧w0.heap.size≤l∧Sp ρ w1 l∧Rel ρ mem next w1∧Ev ρ0 ρ fl m0 n0 mem next w0 w1∧(rnd.isSome=true→mk=[])∧
      y9g P w0.heap.size ρ cs lps css w1 (mk++ma) mb∧(∀j L l',y1z lps j=some L→ρ.lp j=some l'→l'≠l):=by
     have gr: ∀(w1:World) (o:Obj) (mk:List Nat),y9g P w0.heap.size ρ cs lps css w1 mk mb→y9g P w0.heap.size ρ cs lps css (w1.alloc o) mk mb:=fun w1 o mk hr=>
      ⟨hr.cs,hr.nodup,fun r hx=>by obtain ⟨q1,q2,q3⟩:=hr.marks r hx;exact ⟨q1,(q2.grow o).1,by rw [(q2.grow o).2];exact q3⟩,fun j L hL=>by
       obtain ⟨l,q1,q2,q3,tm,fn',d,q4,q5⟩:=hr.loops j L hL;exact ⟨l,q1,q2,(q3.grow o).1,tm,fn',d,by rw [(q3.grow o).2];exact q4,q5⟩,hr.inj⟩
     have far: ∀(w1:World),y9g P w0.heap.size ρ cs lps css w1 ma mb→ ∀j L l',y1z lps j=some L→ρ.lp j=some l'→l'<w1.heap.size:=fun w1 hr j L l' hL e=>by obtain ⟨l2,q⟩:=hr.loops j L hL;have:=q.lp;rw [e] at this;obtain rfl:=Option.some.inj this;exact q.sp.1
     cases hr:b.roundOf with
     | none=>
      have hrn:rnd=none:=by
       cases rnd with
       | none=>rfl
       | some j=>obtain ⟨_,l,_,e2⟩:=eT;rw [hr] at e2;cases e2
      subst hrn;have hs1:Sp ρ (w.alloc (.deferred (some []))) w.heap.size:=Sp.fresh eG _;have fI:=eG.grow (.deferred (some []));have hsz1:(w.alloc (.deferred (some []))).heap.size =w.heap.size+1:=by show (w.heap.push _).size =_;simp
      have fQ:y9g P w0.heap.size ρ cs lps css (w.alloc (.deferred (some []))) ([w.heap.size]++ma) mb:=by
       have hr1:=gr w (.deferred (some [])) ma hs.rest;have hnin:w.heap.size ∉ ma++mb:=fun hin=>by have:=(hs.rest.marks _ hin).2.1.1;omega
       refine ⟨hr1.cs,by rw [List.append_assoc];exact List.nodup_cons.2 ⟨hnin,hr1.nodup⟩,fun r hx=> ?_,hr1.loops,hr1.inj⟩;simp only [List.cons_append,List.nil_append,List.mem_cons] at hx;rcases hx with rfl | hx
       ·exact ⟨he.size,hs1,by show (w.heap.push _)[w.heap.size]? =_;simp⟩
       ·exact hr1.marks r hx
      refine ⟨w.heap.size+1,[w.heap.size],_,w.heap.size,run_enterLoop_outer _ _ _ _ _,?_,by have:=he.size;omega,?_,fI.grow _,(he.grow _).grow _,(fun e=>by cases e),gr _ _ _ fQ,fun j L l' hL e=> ?_⟩
      ·have:=World.alloc_heap_new (w.alloc (.deferred (some []))) (.loop {state:=.ready,pending:=none,fn:=b.fn,tmps:=a.tmps,params:=params,assign,body,defers:=w.heap.size});rw [hsz1] at this;exact this
      ·have:=Sp.fresh fI (.loop {state:=.ready,pending:=none,fn:=b.fn,tmps:=a.tmps,params:=params,assign,body,defers:=w.heap.size});rw [hsz1] at this;exact this
      ·have:=far w hs.rest j L l' hL e;omega
     | some l0=>
      obtain ⟨j0,rfl⟩: ∃j0,rnd=some j0:=by
       cases rnd with
       | none=>have e2:b.roundOf=none:=eT;rw [hr] at e2;cases e2
       | some j=>exact ⟨j,rfl⟩
      obtain ⟨hma,l1,hlp1,e2⟩:=eT;rw [hr] at e2;obtain rfl:=Option.some.inj e2;subst hma;have hsome: ∃L0,y1z lps j0=some L0:=Option.isSome_iff_exists.1 hrk;obtain ⟨L0,hL0⟩:=hsome;obtain ⟨l2,q1,q2,q3,tm,fn',d,q4,q5⟩:=hs.rest.loops j0 L0 hL0;rw [hlp1] at q1;obtain rfl:=Option.some.inj q1;refine ⟨w.heap.size,[],_,_,run_enterLoop_inner q4 _ _ _ _ _,World.alloc_heap_new _ _,he.size,Sp.fresh eG _,eG.grow _,he.grow _,(fun _=>rfl),gr _ _ _ hs.rest,fun j L l' hL e=> ?_⟩;have:=far w hs.rest j L l' hL e;omega
    obtain ⟨l,mk,w1,d,hen,fY,gG,hsp,fI,hev1,hmk,fQ,hne⟩:=lay;have hle:ρ.le (lpAdd ρ next l):=x0j fI.lp_none;have hlpj:(lpAdd ρ next l).lp next=some l:=if_pos rfl
    have get: ∀i L,y1z (w5o lps next (some L)) i=if i=next then some L else y1z lps i:=fun i L=>T.get_set none lps next (some L) i
    have hlps: ∀j L l',y1z lps j=some L→(lpAdd ρ next l).lp j=some l'→j≠next→ρ.lp j=some l':=fun j L l' _ e hj=>by have e:(if j=next then some l else ρ.lp j)=some l':=e;rwa [if_neg hj] at e
    have hrest2:y9g P w0.heap.size (lpAdd ρ next l) cs (w5o lps next (some ⟨.ready,none,cx.n,env,params.toList,assign,body⟩)) css w1 (mk++ma) mb:=by
     refine ⟨fQ.cs.mono hle,fQ.nodup,fQ.marks,fun j L hL=> ?_,fun j j' L L' l' hL hL' e e'=> ?_⟩
     ·rw [get] at hL;by_cases hj:j=next
      ·subst hj;rw [if_pos rfl] at hL;obtain rfl:=Option.some.inj hL;exact ⟨l,hlpj,gG,hsp,a.tmps,b.fn,d,by simpa using fY,eK.mono hle⟩
      ·rw [if_neg hj] at hL;obtain ⟨l2,q1,q2,q3,tm,fn',d',q4,q5⟩:=fQ.loops j L hL;exact ⟨l2,hle.2.2 _ _ q1,q2,q3,tm,fn',d',q4,q5.mono hle⟩
     ·rw [get] at hL hL';by_cases hj:j=next <;> by_cases hj':j'=next
      ·rw [hj,hj']
      ·subst hj;rw [if_neg hj'] at hL';rw [hlpj] at e;exact absurd (Option.some.inj e).symm (hne j' L' l' hL' (hlps _ _ _ hL' e' hj'))
      ·subst hj';rw [if_neg hj] at hL;rw [hlpj] at e';exact absurd (Option.some.inj e').symm (hne j L l' hL (hlps _ _ _ hL e hj))
      ·rw [if_neg hj] at hL;rw [if_neg hj'] at hL';exact fQ.inj j j' L L' l' hL hL' (hlps _ _ _ hL e hj) (hlps _ _ _ hL' e' hj')
    have hf:=(show Wq ρ (St.env ⟨env,mem,next,orc,ob⟩) cx.n a.tmps from eK).eval f;rw [hg] at hf;generalize hw':a.eval f=u at hf;cases hf with
    | fn _ _ cvs hl hh=>
     have eL:Vj (Ym (lpAdd ρ next l)) (AVal.yld next::caps) (#[Value.func (.yield l) #[] #[]]++cvs).toList :=by rw [Array.toList_append];exact .cons (.yld _ _ hlpj) (Vj.of (by simpa using hl) fun i h1 h2=>by simpa using (hh i h1 (by simpa using h2)).mono hle)
     have fA:=z1n hN hfn (by rw [hb];rfl) (#[Value.func (.yield l) #[] #[]]++cvs) w1;have fE:=stepR_rangeFunc (P:=P) (b:=b) (a:=a) (k:=k') (cs:=css++cs0) (g:=f) (d:=⟨.fn (.func g) cvs, #[Value.func (.yield l) #[] #[]]⟩) (w₁':=w1) hen
      (by simp only [resolve,hw',Deferred.ofValue];simp [Act.eval]) (by simp only [invoke];exact fA)
     have hfr:w5t (lpAdd ρ next l) cx none (.inRangeFunc next::k0) rnd env b {a with defers:=mk.map u8a++a.defers} (.inRangeFunc l::k') (mk++ma):=
      ⟨eK.mono hle,by rw [List.map_append,hdf],.cons (.inR _ _ hlpj) (htl.mono fun _ _=>w2b.mono hle),trivial,by
       cases rnd with
       | none=>exact eT
       | some j=>
        obtain ⟨h0,l',h1,h2⟩:=eT;exact ⟨by rw [hmk rfl,h0];rfl,l',hle.2.2 _ _ h1,h2⟩⟩
     obtain ⟨_,_,_,_,_,b',a',k2,hent,hsr⟩:=y8s h hfr hs.lv hrest2 (show Rel _ mem (next+1) w1 from fI.lpAdd l) eL;refine ⟨lpAdd ρ next l,b',a',k2,_,w1,_,_,.one ?_,hsr,?_,by cases css <;> rfl⟩
     ·rw [show C'.ro=none by rw [hCe],←hent];exact fE
     ·rw [hCe];exact hev1.lpAdd fI l
   ·cases h
  ·-- a round begins
   rename_i k0;split at h
   ·rename_i j;split at h
    ·rename_i pend n env params assign body hlg;obtain rfl:=Option.some.inj h;refine ⟨⟨hfl.cx,hfl.cs,hfl.le⟩,Wp.refl _ _,fun ho m0 n0 ρ0 w0 ρ b a k css w ma mb hs he cs0=> ?_⟩;obtain ⟨eK,hdf,htd,hro,eT⟩:=hs.top;obtain ⟨rfl,lr0,hlp0,hrb⟩:=eT;obtain ⟨k',rfl,htl⟩:=y5w.item rfl htd;obtain ⟨lr,hla⟩:=hs.rest.loops j _ hlg;have hla':=hla;obtain ⟨hlp,gG,hsp,ltmps,lfn,ld,fY,fU⟩:=hla;rw [hlp] at hlp0;obtain rfl:=Option.some.inj hlp0;have eI:=run_beginRound (P:=P) fY rfl;have eZ:=hs.rest.record (w':=w.putObj lr (.loop ⟨.busy,pend,lfn,ltmps,params.toArray,assign,body,ld⟩)) hlg hla' (L':=⟨.busy,pend,n,env,params,assign,body⟩)
      ⟨hlp,gG,hsp.turned (Vv.put _ _ _),ltmps,lfn,ld,World.putObj_heap_same hsp.1,fU⟩ (Vv.put _ _ _)
     refine ⟨ρ,b,a,k',css,_,[],mb,.one (stepR_beginRound hrb eI),⟨⟨eK,hdf,htl,trivial,⟨rfl,lr,hlp,hrb⟩⟩,hs.lv,eZ,hs.rel.turned (fun r hr=>by rw [List.mem_singleton.1 hr];exact hsp) (Vv.put _ _ _)⟩,he.turned (m:=[lr]) (fun r hr=>by rw [List.mem_singleton.1 hr];exact gG) (Vv.put _ _ _),rfl⟩
    ·cases h
   ·cases h
  ·-- a loop's end
   rename_i j k0;split at h
   ·cases h
   ·rename_i lst pend n env params assign body hnb hlg;obtain rfl:=Option.some.inj h;refine ⟨⟨hfl.cx,hfl.cs,hfl.le⟩,Wp.refl _ _,fun ho m0 n0 ρ0 w0 ρ b a k css w ma mb hs he cs0=> ?_⟩;obtain ⟨eK,hdf,htd,hro,eT⟩:=hs.top;obtain ⟨lr,hla⟩:=hs.rest.loops j _ hlg;have hla':=hla;obtain ⟨hlp,gG,hsp,ltmps,lfn,ld,fY,fU⟩:=hla;cases htd with
    | @cons _ y _ k' hx htl=>
     cases hx with
     | same _ hp=>cases hp
     | endR _ l hl =>
      rw [hlp] at hl;obtain rfl:=Option.some.inj hl;have hb:lst≠ .busy :=fun e=>by subst e;exact hnb rfl
      have eI:=run_endLoop (P:=P) fY hb;have eZ:=hs.rest.record (w':=w.putObj lr (.loop ⟨.exhausted,pend,lfn,ltmps,params.toArray,assign,body,ld⟩)) hlg hla' (L':=⟨.exhausted,pend,n,env,params,assign,body⟩)
       ⟨hlp,gG,hsp.turned (Vv.put _ _ _),ltmps,lfn,ld,World.putObj_heap_same hsp.1,fU⟩ (Vv.put _ _ _)
      refine ⟨ρ,b,a,_,css,_,ma,mb,.one (stepR_endRangeFunc eI),⟨⟨eK,hdf,?_,trivial,eT⟩,hs.lv,eZ,hs.rel.turned (fun r hr=>by rw [List.mem_singleton.1 hr];exact hsp) (Vv.put _ _ _)⟩,he.turned (m:=[lr]) (fun r hr=>by rw [List.mem_singleton.1 hr];exact gG) (Vv.put _ _ _),rfl⟩;cases pend with
      | none=>exact htl
      | some c=>exact .cons (.same _ rfl) htl
   ·cases h
  ·cases h
theorem w7m {S:Specs} {Rc:Runner} {n:Nat} {C:Cfg}:runS P S Rc (n+1) C=(bif z5n C then some C else match w2k P S Rc C with
  | some C'=>runS P S Rc n C'
  | none=>none):=rfl
theorem y4p {C:Cfg} (h:z5n C=true):C.ro=none∧C.rnd=none∧C.cs=[]∧(C.todo=[]∨ ∃t,C.todo=.code .ret ::t):=by
 unfold z5n at h;split at h
 ·exact ⟨rfl,rfl,rfl,.inl rfl⟩
 ·exact ⟨rfl,rfl,rfl,.inr ⟨_,rfl⟩⟩
 ·cases h
theorem z9t.trans {fl:Nat} {A B C:Cfg} (h:z9t P fl A B) (k:z9t P fl B C):z9t P fl A C:=by intro m0 n0 ρ0 w0 ρ b a t css w ma mb hs he cs0;obtain ⟨ρ1,b1,a1,t1,css1,w1,ma1,mb1,s1,r1,e1,q1⟩:=h m0 n0 ρ0 w0 ρ b a t css w ma mb hs he cs0;obtain ⟨ρ2,b2,a2,t2,css2,w2,ma2,mb2,s2,r2,e2,q2⟩:=k m0 n0 ρ0 w0 ρ1 b1 a1 t1 css1 w1 ma1 mb1 r1 e1 cs0;exact ⟨ρ2,b2,a2,t2,css2,w2,ma2,mb2,s1.trans s2,r2,e2,q2.trans q1⟩
theorem y9s {S:Specs} {Rc:Runner} (hN:z9s P) (hmx:P.follows .mixedOrders =true) (hS:Zq P S) (hCI:w2a Rc) (hC:ROk P Rc) {fl:Nat}: ∀(n:Nat) (C C':Cfg),Fl fl C→runS P S Rc n C=some C'→z5n C'=true∧Wp fl C.st C'.st∧(C'.st.ob=true→z9t P fl C C')
 | 0,C,st',_,h=>by cases h
 | n+1,C,C',hfl,h=>by
  rw [w7m] at h;cases hf:z5n C with
  | true=>rw [hf] at h;obtain rfl:=Option.some.inj h;exact ⟨hf,Wp.refl _ _,fun _=>z9t.refl fl C⟩
  | false=>
   rw [hf,cond_false] at h;split at h
   ·rename_i C1 h1;have s1:=x1w hN hmx hS hCI hC hfl h1;obtain ⟨f1,f4,f5⟩:=y9s hN hmx hS hCI hC n C1 C' s1.fls h;exact ⟨f1,s1.inv.trans f4,fun ho=>(s1.leads (f4.ob ho)).trans (f5 ho)⟩
   ·cases h
theorem y5w.refl_plain {ρ:Rho}: ∀(k:List Item),k.all Qo=true→y5w ρ k k
 | [],_=>.nil
 | x::k,h=>by simp only [List.all_cons,Bool.and_eq_true] at h;exact .cons (.same x h.1) (y5w.refl_plain k h.2)
theorem y7n (base:Nat) (ρ:Rho) (w:World):y9g P base ρ [] .leaf [] w [] []:=
 ⟨.nil,List.nodup_nil,(fun r hr=>by cases hr),(fun j L hL=>by cases hL),(fun j j' L L' l hL=>by cases hL)⟩
theorem w7n (hN:z9s P) (hmx:P.follows .mixedOrders =true) {S:Specs} (hS:Zq P S) (n:Nat): ∀d,w2a (u6n P S n d)∧ROk P (u6n P S n d)
 | 0=>⟨(fun cx todo st st' h=>by cases h),(fun cx todo st st' _ h=>by cases h)⟩
 | d+1=>by
  obtain ⟨hCI,hC⟩:=w7n hN hmx hS n d;have key: ∀{cx todo st st'},u6n P S n (d+1) cx todo st=some st'→todo.all Qo=true∧Fl cx.floor ⟨cx,none,todo,none,[],st,[],.leaf⟩∧ ∃C',runS P S (u6n P S n d) n ⟨cx,none,todo,none,[],st,[],.leaf⟩=some C'∧C'.cx.n=cx.n∧C'.st=st':=by
   intro cx todo st st' h;have h:(bif todo.all Qo&&Nat.ble cx.floor st.next then match runS P S (u6n P S n d) n ⟨cx,none,todo,none,[],st,[],.leaf⟩ with
    | some C=>bif Nat.beq C.cx.n cx.n then some C.st else none
    | none=>none
    else none)=some st':=h
   obtain ⟨hp,h⟩:=Yk h;simp only [Bool.and_eq_true] at hp;refine ⟨hp.1,⟨rfl,fun af haf=>(by cases haf),Nat.le_of_ble_eq_true hp.2⟩,?_⟩;split at h
   ·rename_i C' hr;obtain ⟨hn,h⟩:=Yk h;exact ⟨C',hr,Nat.eq_of_beq_eq_true hn,Option.some.inj h⟩
   ·cases h
  refine ⟨fun cx todo st st' h=> ?_,fun cx todo st st' hcx h ho ρ a w b cs hd eK eG=> ?_⟩
  ·obtain ⟨_,hfl,C',hr,_,rfl⟩:=key h;exact (y9s hN hmx hS hCI hC n _ C' hfl hr).2.1
  ·obtain ⟨hpl,hfl,C',hr,hn,rfl⟩:=key h;obtain ⟨f1,f2,f3⟩:=y9s hN hmx hS hCI hC n _ C' hfl hr;obtain ⟨e1,e2,e3,e4⟩:=y4p f1;obtain ⟨ρ',b',a',k',css',w',ma',mb',s1,r1,v1,q1⟩:=f3 ho st.mem st.next ρ w ρ {b with roundOf:=none} a todo [] w [] []
    ⟨⟨eK,hd,y5w.refl_plain todo hpl,trivial,rfl⟩,fun h=>absurd rfl h,y7n _ _ _,eG⟩ (Ev.refl _ _ _ _ _ eG.dom) cs
   have hcs:=r1.rest.cs;rw [e3] at hcs;cases hcs;obtain ⟨w2,s2,henv',fF,hev',_⟩:=y4v r1 e1 e2 e4 rfl v1 cs;refine ⟨ρ',{a' with defers:=[]},k',w2,?_,rfl,by rw [←hn];exact henv',fF,hev'⟩;have hb:b.at a todo=Frame.atR {b with roundOf:=none} a (Wi none todo):=rfl;have hb':Frame.atR b' {a' with defers:=[]} k'=b.at {a' with defers:=[]} k':=by have q:(b'.fn,b'.kind,b'.roundOf)=(b.fn,b.kind,none):=q1;simp only [Prod.mk.injEq] at q;simp [Frame.atR,Frame.at,q.1,q.2.1,q.2.2]
   rw [hb,←hb'];exact s1.trans s2
end
end Go.Am
end
