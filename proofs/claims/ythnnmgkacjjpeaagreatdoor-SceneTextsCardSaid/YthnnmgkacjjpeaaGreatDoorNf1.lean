/- A part of a proof: several texts in one. -/
import Derived.Test.YthnnmgkacjjpeaaGreatDoorNf0
import Derived.IntWalk
set_option maxRecDepth 1000000
set_option maxHeartbeats 8000000
set_option linter.unusedVariables false
set_option linter.unusedSimpArgs false
noncomputable section
namespace Go.Am
open IntKind (wrap)
section
variable {P:Program} {ρ:B9}
theorem ZB {t u e:TypeId} {ut:TypeDesc} {i:TypeInfo} {type:TypeId} (hu:P.underlying t=some (.slice e)) (hut:P.underlying u=some ut) (hni: ∀k,ut≠ .int k) (hi:P.info? e=some i) {ts:List TypeId} {base:Option Addr} {len n c:Nat} {x:Value} {vs:Array Value} {xs:List Value} {w:World}
  (eC:(Builtin.lenOf x).run P w=.ok n w) (eU:(Builtin.firstCells i.size n x).run P w=.ok vs w) (eI:len+n<=c) {w':World}
  (hst: ∀a,base=some a->(storeCells (a.add (len*i.size)) vs.toList).run P w=.ok () w') (hno:base=none->w'=w):
  (Builtin.append_ (t::u::ts).toArray type ((.slice base len c)::x::xs).toArray).run P w=.ok (.slice base (len+n) c) w':=by
 cases base with
 | none=>obtain rfl:=hno rfl;simp [Builtin.append_,run_underlying hu,run_underlying hut,Zh hi,eC,eU,eI]
 | some a=>have:=hst a rfl;simp [Builtin.append_,run_underlying hu,run_underlying hut,Zh hi,eC,eU,eI,this]
theorem ZG {t u e:TypeId} {ut:TypeDesc} {i:TypeInfo} {type:TypeId} (hu:P.underlying t=some (.slice e)) (hut:P.underlying u=some ut) (hni: ∀k,ut≠ .int k) (hi:P.info? e=some i) {z:Value} (hz:i.zero=some z) {ts:List TypeId} {base:Option Addr} {len n c:Nat} {x:Value} {vs old:Array Value} {xs:List Value} {w:World}
  (eC:(Builtin.lenOf x).run P w=.ok n w) (eU:(Builtin.firstCells i.size n x).run P w.drew=.ok vs w.drew) (hold:(Builtin.firstCells i.size len (.slice base len c)).run P w.drew=.ok old w.drew)
  (eI:c<len+n) (fA:(len+n+1)*(i.bytes+1)<=1099511627776):
  ∃newCap,len+n<=newCap/\ ∃rest:Array Value,rest.size=(newCap - (len+n))*z.cells.size/\
  (Builtin.append_ (t::u::ts).toArray type ((.slice base len c)::x::xs).toArray).run P w=.ok (.slice (some ⟨w.heap.size,0,none⟩) (len+n) newCap) (w.drew.alloc (.cells (old++vs++rest) e)):=by
 have hmul:len+n+1<=(len+n+1)*(i.bytes+1):=Nat.le_mul_of_pos_right _ (by omega);have hr:=v3n fA eI;have hr': ¬2 ^ 48<Builtin.nextslicecap (len+n) c*i.bytes:=hr;have hr'': ¬281474976710656<Builtin.nextslicecap (len+n) c*i.bytes:=hr;have h1: ¬len+n<=c:=by omega
 have h2: ¬(9223372036854775807<(len:Int)+(n:Int)):=by omega
 have hq:(Question.appendCap (len+n) c e).forced =false:=rfl;have hzero: ∀w,(zeroValue e).run P w=.ok z w:=fun w=>by simp [zeroValue,run_typeInfo w hi,hz]
 refine ⟨(Question.appendCap (len+n) c e).cut (w.tape w.drawn (Question.appendCap (len+n) c e)),by simp only [Question.cut];omega,Builtin.zeroCells z.cells ((Question.appendCap (len+n) c e).cut (w.tape w.drawn (Question.appendCap (len+n) c e)) - (len+n)),by simp [Builtin.zeroCells],?_⟩;have hty: ∀w,(typeInfo e).run P w=.ok i w:=fun w=>run_typeInfo w hi;simp [Builtin.append_,run_underlying hu,run_underlying hut,Zh hi,eC,h1,h2,hty,hr'',hq,eU,hold,hzero,newRow]
theorem Ua.append {a b:zx} {us vs:Array Value} (h:Ua ρ a us) (k:Ua ρ b vs):Ua ρ (a++b) (us++vs):=by
 refine ⟨by simp [h.1,k.1],fun i h1 h2=> ?_⟩;by_cases hi:i<a.length
 .rw [BF hi,Array.getElem_append_left (by rw [<-h.1];exact hi)];exact h.2 i hi (by rw [<-h.1];exact hi)
 .rw [Bq (by omega),Array.getElem_append_right (by rw [<-h.1];omega)];have e:=h.1;simp only [e];exact k.2 (i - us.size) (by grind) (by grind)
theorem U0 {st:St} {w:World} (h:CB ρ st.mem st.next w) (floor:Nat) {cs:zx} {vs:Array Value} (hr:Ua ρ cs vs) (rest:Array Value) (ty el:TypeId) (v:B5) (u:Value)
  (eT: ∀ρ',ρ' st.next=some ⟨w.heap.size,0,cs.length,vs.size+rest.size⟩->Zn ρ' v u) (hel:el=ty:=by rfl):
  D2 ρ floor st (Cg st cs ty) v w (Uq ρ st.next ⟨w.heap.size,0,cs.length,vs.size+rest.size⟩) u (w.drew.alloc (.cells (vs++rest) el)):=by
 have hd:CB ρ st.mem st.next w.drew:=h.drawn _
 have:=Ph hd floor cs ty (vs++rest) el (by rw [hr.1];simp) (fun i h1 h2=>by
  rw [Array.getElem_append_left (by rw [<-hr.1];exact h1)];exact hr.2 i h1 (by rw [<-hr.1];exact h1)) v u (fun ρ' hρ'=>eT ρ' (by simp_all)) hel
 simp only [Array.size_append] at this;exact ⟨this.val,this.rel,this.ev.drawn⟩
theorem Gi {α:Type} {c:Bool} {x:Option α} {y:α} (h:(bif c then x else none)=some y):c=true/\x=some y:=by grind
structure XV (P:Program) (ρ:B9) (t u e:TypeId) (i:TypeInfo) (z:Value) (ux:Value) (n:Nat) (new:zx) (vs:Array Value) (w:World):Prop where
 rel:Ua ρ new vs
 hin: ∀{type:TypeId} {ts:List TypeId} {base:Option Addr} {len c:Nat} {xs:List Value},(n=0\/(n+1)*(i.bytes+1)<=1099511627776)->len+n<=c-> ∀{w':World},(∀a,base=some a->(storeCells (a.add (len*i.size)) vs.toList).run P w=.ok () w')->(base=none->w'=w)->
  (Builtin.append_ (t::u::ts).toArray type ((.slice base len c)::ux::xs).toArray).run P w=.ok (.slice base (len+n) c) w'
 hnew: ∀{type:TypeId} {ts:List TypeId} {base:Option Addr} {len c:Nat} {xs:List Value} {old:Array Value},(Builtin.firstCells i.size len (.slice base len c)).run P w.drew=.ok old w.drew->c<len+n->(len+n+1)*(i.bytes+1)<=1099511627776->
  ∃newCap,len+n<=newCap/\ ∃rest:Array Value,rest.size=(newCap - (len+n))*z.cells.size/\
   (Builtin.append_ (t::u::ts).toArray type ((.slice base len c)::ux::xs).toArray).run P w=.ok (.slice (some ⟨w.heap.size,0,none⟩) (len+n) newCap) (w.drew.alloc (.cells (old++vs++rest) e))
theorem x0n {n:Int} {bytes:Nat} (h0:0<=n) (h:n.toNat=0\/(n.toNat+1)*(bytes+1)<=1099511627776):IntKind.i64.wrap n=n/\n*(bytes:Int)<=281474976710656:=by
 grind [IntWalk.i64_in]
theorem Ka {mem:CE} {next:Nat} {w:World} (h:CB ρ mem next w) {t u e:TypeId} {ut:TypeDesc} {i:TypeInfo} {z:Value} {zero:zx} {x:B5} {ux:Value} {n:Nat} {new:zx} (hu:P.underlying t=some (.slice e)) (hut:P.underlying u=some ut) (hi:P.info? e=some i) (hz:i.zero=some z)
  (hzr:Ua ρ zero z.cells) (hzl:zero.length=i.size) (hc:Jd mem i.size zero ut x=some (n,new)) (hx:Zn ρ x ux) (hnl:new.length=n*i.size): ∃vs,XV P ρ t u e i z ux n new vs w:=by
 unfold Jd at hc;split at hc
 .rename_i kt;split at hc
  .rename_i k m;obtain ⟨h0,hc⟩:=Gi hc;have h0:=Aw h0;simp only [Ae,Ac] at hc;obtain ⟨rfl,rfl⟩:=hc;cases hx;have hzs:z.cells.size=i.size:=by rw [<-hzr.1];exact hzl
   refine ⟨Builtin.zeroCells z.cells m.toNat,?_,?_,?_⟩
   .exact QG hzr m.toNat (m.toNat*z.cells.size) (by rw [hzr.1])
   .intro type ts base len c xs hr eI w' hst hno;obtain ⟨hw,hb⟩:=x0n h0 hr;have hb': ¬281474976710656<m*(i.bytes:Int):=(by omega);have hlt: ¬m<0:=(by omega);have hzv: ∀w,(zeroValue e).run P w=.ok z w:=fun w=>by simp [zeroValue,run_typeInfo w hi,hz]
    have hty: ∀w,(typeInfo e).run P w=.ok i w:=fun w=>run_typeInfo w hi;by_cases hz0:m.toNat*i.size=0
    .have hze:Builtin.zeroCells z.cells m.toNat= #[]:=(by simp [Builtin.zeroCells,hzs,hz0]);rw [hze] at hst;cases base with
     | none=>obtain rfl:=hno rfl;simp [Builtin.append_,run_underlying hu,run_underlying hut,Zh hi,asInt,asIntOf,hw,hlt,hty,hb',eI,hz0]
     | some a=>have:=hst a rfl;simp only [] at this;simp [Builtin.append_,run_underlying hu,run_underlying hut,Zh hi,asInt,asIntOf,hw,hlt,hty,hb',eI,hz0,this]
    .cases base with
     | none=>obtain rfl:=hno rfl;simp [Builtin.append_,run_underlying hu,run_underlying hut,Zh hi,asInt,asIntOf,hw,hlt,hty,hb',eI,hz0,hzv]
     | some a=>have:=hst a rfl;simp [Builtin.append_,run_underlying hu,run_underlying hut,Zh hi,asInt,asIntOf,hw,hlt,hty,hb',eI,hz0,hzv,this]
   .intro type ts base len c xs old hold eI fA;have hr:m.toNat=0\/(m.toNat+1)*(i.bytes+1)<=1099511627776:=.inr (AP (AD _ (by omega)) fA);obtain ⟨hw,hb⟩:=x0n h0 hr;have hb': ¬281474976710656<m*(i.bytes:Int):=(by omega);have hlt: ¬m<0:=(by omega);have hmul:len+m.toNat+1<=(len+m.toNat+1)*(i.bytes+1):=Nat.le_mul_of_pos_right _ (by omega);have hr0:=v3n fA eI;have hr'': ¬281474976710656<Builtin.nextslicecap (len+m.toNat) c*i.bytes:=hr0;have h1: ¬len+m.toNat<=c:=(by omega);have h2: ¬(9223372036854775807<(len:Int)+(m.toNat:Int)):=(by omega);have h2': ¬(9223372036854775807<(len:Int)+max m 0):=(by omega);have hq:(Question.appendCap (len+m.toNat) c e).forced =false:=rfl;have hzv: ∀w,(zeroValue e).run P w=.ok z w:=fun w=>by simp [zeroValue,run_typeInfo w hi,hz]
    have hty: ∀w,(typeInfo e).run P w=.ok i w:=fun w=>run_typeInfo w hi;refine ⟨(Question.appendCap (len+m.toNat) c e).cut (w.tape w.drawn (Question.appendCap (len+m.toNat) c e)),by simp only [Question.cut];omega,Builtin.zeroCells z.cells ((Question.appendCap (len+m.toNat) c e).cut (w.tape w.drawn (Question.appendCap (len+m.toNat) c e)) - (len+m.toNat)),by simp [Builtin.zeroCells],?_⟩;by_cases hz0:m.toNat*i.size=0
    .have hze:Builtin.zeroCells z.cells m.toNat= #[]:=(by simp [Builtin.zeroCells,hzs,hz0]);simp [Builtin.append_,run_underlying hu,run_underlying hut,Zh hi,asInt,asIntOf,hw,hlt,hb',h1,h2,h2',hty,hr'',hq,hold,hzv,newRow,hz0,hze]
    .simp [Builtin.append_,run_underlying hu,run_underlying hut,Zh hi,asInt,asIntOf,hw,hlt,hb',h1,h2,h2',hty,hr'',hq,hold,hzv,newRow,hz0]
  .cases hc
 .rename_i hni';have hni: ∀k,ut≠ .int k:=fun k hk=>hni' k hk;obtain ⟨eC,eU⟩:=Um (P:=P) h hc hx hnl;obtain ⟨vs,hvs,hfc⟩:=eU n (Aj _);rw [A4 (by omega)] at hvs;have fZ:(Builtin.firstCells i.size n ux).run P w=.ok vs w:=hfc w.drawn;have hfc1:(Builtin.firstCells i.size n ux).run P w.drew=.ok vs w.drew:=hfc (w.drawn+1);exact ⟨vs,hvs,fun _ eI _ hst hno=>ZB hu hut hni hi (eC w) fZ eI hst hno,fun hold eI fA=>ZG hu hut hni hi hz (eC w) hfc1 hold eI fA⟩
theorem x6d {w:World} {x:Obj} {n:Nat} {k:Nat} {o:Obj} (h:w.heap[k]? =some o):(World.alloc {w with drawn:=n} x).heap[k]? =some o:=by
 have:k<w.heap.size:=(AB.1 h).1;show (w.heap.push x)[k]? =some o
 grind
theorem x9b {w:World} {k:Nat} {cur:Array Value} {el:TypeId} {vs:List Value} {m:Nat} (hw:w.heap[k]? =some (.cells cur el (0,0))) (hm:m+vs.length<=cur.size):
  ∃cs1,(w.setRow k (cur.toList.take m++vs++cur.toList.drop (m+vs.length)).toArray).heap[k]? =some (.cells cs1 el (0,0))/\cs1.size=cur.size/\ ∀j,j<m->cs1[j]? =cur[j]? :=by
 have hc:cur.toList.length=cur.size:=Array.length_toList;refine ⟨_,setRow_heap w k cur _ el (0,0) hw,by simp;omega,fun j hj=> ?_⟩
 grind
def j6p (ρ:B9) (m:CE) (xs:zx) (w w':World):Prop:=
 (∀(b off len z b2 o2 n2:Nat) (c2:E6) (r:zx) (blk:CA) (l:CT),xs=.sl b off len (.un z)::.sl b2 o2 n2 c2::r->1<=n2->Yi m b=some blk->off+len*z=blk.cells.length->ρ b=some l->Vv ρ w' blk l)/\
 ∀r:zx,xs=.nils ::r-> ∀(k:Nat) (o:Obj),w.heap[k]? =some o->w'.heap[k]? =some o
theorem w1h {m:CE} {sz:Nat} {zero:zx} {ut:TypeDesc} {b o n2:Nat} {c:E6} {n:Nat} {new:zx} (h:Jd m sz zero ut (.sl b o n2 c)=some (n,new)):n=n2:=by
 have key:Xa m sz (.sl b o n2 c)=some (n,new)->n=n2:=fun h=>by
  simp only [Xa] at h;cases hm:Yi m b with
  | none=>grind
  | some blk=>rw [hm] at h;obtain ⟨_,h⟩:=MU h;simp_all
 cases ut <;> first | exact key h | (cases h;done)
theorem VB {st st' :St} {w:World} (h:CB ρ st.mem st.next w) (floor:Nat) {ts:Array TypeId} {type:TypeId} {xs:zx} {us:Array Value} {v:B5} (ha:Fr P floor st ts.toList xs=some (v,st')) (hx:Ux (Zn ρ) xs us.toList) (hty:tyOk P st.mem ts.toList xs=true):
  ∃ρ' u w',(Builtin.append_ ts type us).run P w=.ok u w'/\D2 ρ floor st st' v w ρ' u w'/\(st'.env=st.env/\st'.ob=st.ob)/\j6p ρ st.mem xs w w':=by
 obtain ⟨ts⟩:=ts;obtain ⟨us⟩:=us;simp only at ha hx;unfold Fr at ha;split at ha
 .rename_i t tu tts s x txs;cases hx with
  | @cons _ su _ _ hs hx=>
   cases hx with
   | @cons _ ux _ uxs hx _=>
    split at ha
    .rename_i e ut hu hut;split at ha
     .rename_i i zero hi hz;split at ha
      .rename_i n new hcs;obtain ⟨i2,z,hi2,hz2,hzr,_⟩:=Ws (ρ:=ρ) hz;obtain rfl:i=i2:=by grind
       cases hc:(Nat.beq zero.length i.size&&Nat.beq new.length (n*i.size)&&Nat.ble 1 i.size&&new.all Ci) with
       | false=>grind
       | true =>
        rw [hc,Af] at ha;simp only [Ad] at hc;obtain ⟨⟨⟨hzl,hnl⟩,hsz⟩,hsc⟩:=hc;have hzl:=Ai hzl;have hnl:=Ai hnl;have hsz:=Al hsz;have hzs:z.cells.size=i.size:=by rw [<-hzr.1];exact hzl
        obtain ⟨vs,hF⟩:=Ka (P:=P) h hu hut hi hz2 hzr hzl hcs hx hnl;have hvs:=hF.rel;have hvsz:vs.size=n*i.size:=by rw [<-hvs.1];exact hnl
        have eS:=Zn.cells_oneCell hvs hsc;split at ha
        ·-- nil
         cases hs;cases hn0:Nat.beq n 0 with
         | true=>rw [hn0,Af] at ha;simp only [Ae,Ac] at ha;obtain ⟨rfl,rfl⟩:=ha;have hn0:=Ai hn0;subst hn0;have eE:=hF.hin (type:=type) (ts:=tts) (base:=none) (len:=0) (c:=0) (xs:=uxs) (.inl rfl) (Aj _) (w':=w) (fun a e=>by cases e) (fun _=>rfl);exact ⟨ρ,_,w,eE,⟨.nils,h,Ev.refl _ _ _ _ _ h.dom⟩,⟨rfl,rfl⟩,(fun _ _ _ _ _ _ _ _ _ _ _ e=>by cases e),fun _ _ _ _ h=>h⟩
         | false=>
          rw [hn0,Ab] at ha;cases hrm:Nat.ble ((n+1)*(i.bytes+1)) Vw with
          | false=>grind
          | true=>
           rw [hrm,Af] at ha;simp only [Ae,Ac] at ha;obtain ⟨rfl,rfl⟩:=ha;have hrm:=Al hrm;have hnpos:0<n:=by
            grind
           obtain ⟨newCap,eJ,rest,eN,eE⟩:=hF.hnew (type:=type) (ts:=tts) (base:=none) (len:=0) (c:=0) (xs:=uxs) (old:= #[]) (by simp [Builtin.firstCells]) (by omega) (by simpa [Vw] using hrm);simp only [Ak,Array.empty_append] at eE eJ eN;have hsum:vs.size+rest.size=newCap*i.size:=by rw [hvsz,eN,hzs,<-AV];grind
           refine ⟨_,_,_,eE,U0 h floor hvs rest e e _ _ (fun ρ' hρ'=> ?_),⟨rfl,rfl⟩,(fun _ _ _ _ _ _ _ _ _ _ _ e=>by cases e),fun _ _ k o h=>x6d h⟩;refine .sl _ 0 _ _ _ _ hρ' ?_ eJ
           grind [DP]
        ·-- a slice
         rename_i b off len cap;split at ha
         .rename_i blk hm;split at ha
          .rename_i old hold;cases hrm: !blk.isObj&&Nat.ble ((len+n+1)*(i.bytes+1)) Vw with
           | false=>grind
           | true =>
            rw [hrm,Af] at ha;simp only [Ad,Bc] at hrm;obtain ⟨hno,hrm⟩:=hrm;have hrm:=Al hrm;have hrn:n=0\/(n+1)*(i.bytes+1)<=1099511627776:=.inr (AP (AD _ (by omega)) hrm);cases hs with
            | sl _ _ _ _ l c hρ eJ hlc=>
             obtain ⟨hpold,holdl,holdle⟩:=MH hold;have fK:=(h.blk b l blk hρ hm).at hno;have hln:=fK.n;have hmul:(len+n)*i.size=len*i.size+n*i.size:=AV _ _ _;have hoff:off+len*i.size<=blk.cells.length\/len*i.size=0:=(by omega);have hcos:Xa st.mem i.size (.sl b off len cap)=some (len,old):=(by simp [Xa,hm,hold,hno]);obtain ⟨_,hfo⟩:=Um (P:=P) h hcos (.sl b off len cap l c hρ eJ hlc) holdl;obtain ⟨ovs,hovs,hof⟩:=hfo len (Aj _);rw [A4 (by omega)] at hovs;have hovz:ovs.size=len*i.size:=by rw [<-hovs.1];exact holdl
             have hof1:(Builtin.firstCells i.size len (.slice (some ⟨l.blk,l.base+off,none⟩) len c)).run P w.drew=.ok ovs w.drew:=hof (w.drawn+1);have inplace: ∀v st',len+n<=c->floor<=b->off+(len+n)*i.size<=blk.cells.length->
               some (B5.sl b off (len+n) cap,st.withMem (Wm st.mem b (some ⟨blk.cells.take (off+len*i.size)++new++blk.cells.drop (off+(len+n)*i.size),blk.ty,none⟩)))=some (v,st')->(∀z,cap=.un z->z=i.size)->
               ∃ρ' u w',(Builtin.append_ (t::tu::tts).toArray type ((.slice (some ⟨l.blk,l.base+off,none⟩) len c)::ux::uxs).toArray).run P w=.ok u w'/\D2 ρ floor st st' v w ρ' u w'/\(st'.env=st.env/\st'.ob=st.ob)/\j6p ρ st.mem (.sl b off len cap::x::txs) w w':=by
              intro v st' eI hfl eM he hzc;simp only [Ae,Ac] at he;obtain ⟨rfl,rfl⟩:=he;obtain ⟨cur,el,hw,hcsz,eB⟩:=h.write hρ hm (off:=off+len*i.size) (cs:=new) (vs:=vs.toList) hno (by grind) (by omega) (fun j h1 h2=>by simpa using hvs.2 j h1 (by grind));have hst:=run_storeCells_at P l.blk (l.base+off+len*i.size) el vs.toList 0 cur w hw (by grind) eS;rw [Bn] at hst;have eE:=hF.hin (type:=type) (ts:=tts) (base:=some ⟨l.blk,l.base+off,none⟩) (len:=len) (c:=c) (xs:=uxs) hrn eI (w':=w.setRow l.blk (cur.toList.take (l.base+off+len*i.size)++vs.toList++cur.toList.drop (l.base+off+len*i.size+vs.toList.length)).toArray)
               (fun a e=>by cases e;rw [Xo];exact hst) (fun e=>by cases e)
              refine ⟨ρ,_,_,eE,⟨.sl _ _ _ _ l c hρ eJ (by omega),?_,Ev.ofWrite h hρ hfl _ _⟩,⟨rfl,rfl⟩,(fun b' off' len' z b2 o2 n2 c2 r blk' l' e hn hm' hend hl'=> ?keep),fun _ e=>by cases e⟩
              case keep=>exfalso;cases e;obtain rfl:=hzc _ rfl;rw [hm] at hm';obtain rfl:=Ag hm';obtain rfl:=w1h hcs;have:1*i.size<=n*i.size:=AD _ hn;omega
              have e1:off+len*i.size+new.length=off+(len+n)*i.size:=(by omega);rw [e1] at eB
              simpa only [St.withMem,AN] using eB
             have anew: ∀v st' (st1:St),c<len+n->CB ρ st1.mem st1.next w->Ev ρ ρ floor st.mem st.next st1.mem st1.next w w->st1.env=st.env->st1.ob=st.ob->
               some (B5.sl st1.next 0 (len+n) (.un i.size),Cg st1 (old++new) e)=some (v,st')->
               ∃ρ' u w',(Builtin.append_ (t::tu::tts).toArray type ((.slice (some ⟨l.blk,l.base+off,none⟩) len c)::ux::uxs).toArray).run P w=.ok u w'/\D2 ρ floor st st' v w ρ' u w'/\(st'.env=st.env/\st'.ob=st.ob)/\j6p ρ st.mem (.sl b off len cap::x::txs) w w':=by
              intro v st' st1 eI fB hev1 eG hob he;simp only [Ae,Ac] at he;obtain ⟨rfl,rfl⟩:=he;obtain ⟨newCap,gA,rest,eN,eE⟩:=hF.hnew (type:=type) (ts:=tts) (base:=some ⟨l.blk,l.base+off,none⟩) (len:=len) (c:=c) (xs:=uxs) hof1 eI (by simpa [Vw] using hrm);have hov:=hovs.append hvs;have hsum:(ovs++vs).size +rest.size=newCap*i.size:=by rw [Array.size_append,hovz,hvsz,eN,hzs,<-AV,<-AV];grind
              have hp:=U0 fB floor hov rest e e (.sl st1.next 0 (len+n) (.un i.size)) (.slice (some ⟨w.heap.size,0,none⟩) (len+n) newCap) (fun ρ' hρ'=>by
               refine .sl _ 0 _ _ _ _ hρ' ?_ gA
               grind [DP])
              refine ⟨_,_,_,eE,⟨hp.val,hp.rel,hev1.trans hp.ev⟩,⟨?_,?_⟩,(fun b' off' len' z b2 o2 n2 c2 r blk' l' e hn hm' hend hl'=> ?keep),fun _ e=>by cases e⟩
              case keep=>have hq:=h.blk b' l' blk' hl' hm';refine hq.world (B9.le_refl ρ) ?_;obtain ⟨_,g1⟩:=hq.some;rw [g1];exact x6d g1
              all_goals simp_all [Cg]
             split at ha
             ·-- the capacity is known
              rename_i k;simp only [DP] at eJ;subst eJ;cases hk:Nat.ble (len+n) c with
              | true=>
               rw [hk,Af] at ha;have hk:=Al hk;cases hf:(Nat.ble floor b&&Nat.ble (off+(len+n)*i.size) blk.cells.length) with
               | false=>grind
               | true=>rw [hf,Af] at ha;simp_all
              | false=>
               rw [hk,Ab] at ha;have hk: ¬len+n<=c:=fun e=>by rw [AU e] at hk;cases hk
               exact anew _ _ st (by omega) h (Ev.refl _ _ _ _ _ h.dom) rfl rfl ha
             ·-- it is not
              rename_i zz;simp only [DP] at eJ;cases hf:(Nat.beq zz i.size&&Nat.ble floor b) with
              | false=>grind
              | true=>
               rw [hf,Af] at ha;simp only [Ad] at hf;have hzz:=Ai hf.1;have hfl:=Al hf.2;subst hzz;cases hk:Nat.ble (off+(len+n)*i.size) blk.cells.length with
               | true=>
                rw [hk,Af] at ha;have hk:=Al hk;have eI:len+n<=c:=by rw [hln] at eJ;have:(len+n)*i.size<=c*i.size:=(by omega);exact Nat.le_of_mul_le_mul_right this hsz
                grind
               | false=>
                rw [hk,Ab] at ha;cases hend:Nat.beq (off+len*i.size) blk.cells.length with
                | false=>grind
                | true=>
                 rw [hend,Af] at ha;have hend:=Ai hend;by_cases eI:len+n<=c
                 ·-- there is Vw: behind what is told
                  simp only [Ae,Ac] at ha;obtain ⟨rfl,rfl⟩:=ha;have hcm:(len+n)*i.size<=c*i.size:=AD _ eI;obtain ⟨cur,el,hw,hcsz,eB⟩:=h.beyond hρ hm hno (off:=off) (new:=new) (vs:=vs.toList) e (by grind) (by omega) (by omega) (fun j h1 h2=>by simpa using hvs.2 j h1 (by grind)) (by simpa [tyOk,JP,hu,hm] using hty);have hst:=run_storeCells_at P l.blk (l.base+off+len*i.size) el vs.toList 0 cur w hw (by grind) eS;rw [Bn] at hst;have eE:=hF.hin (type:=type) (ts:=tts) (base:=some ⟨l.blk,l.base+off,none⟩) (len:=len) (c:=c) (xs:=uxs) hrn eI (w':=w.setRow l.blk (cur.toList.take (l.base+off+len*i.size)++vs.toList++cur.toList.drop (l.base+off+len*i.size+vs.toList.length)).toArray)
                   (fun a e=>by cases e;rw [Xo];exact hst) (fun e=>by cases e)
                  have hod:old=blk.cells.drop off:=by rw [hpold];exact A4 (by simp;omega)
                  refine ⟨_,_,_,eE,⟨.sl _ 0 _ _ ⟨l.blk,l.base+off,blk.cells.length - off+new.length,l.tot - off⟩ c (by simp [Uq]) ?_ (by omega),?_,Ev.ofBeyond h hρ hfl ⟨l.blk,l.base+off,blk.cells.length - off+new.length,l.tot - off⟩ rfl _ _⟩,⟨rfl,rfl⟩,(fun b' off' len' z b2 o2 n2 c2 r blk' l' e hn hm' _ hl'=> ?keep),fun _ e=>by cases e⟩
                  case keep=>
                   cases e;rw [hm] at hm';obtain rfl:=Ag hm';rw [hρ] at hl';obtain rfl:=Ag hl';obtain ⟨q0,q1,q2,q3,cs0,el0,q4,q5,q6⟩:=fK;rw [hw] at q4;obtain ⟨rfl,rfl⟩:cur=cs0/\el=el0:=by
                    grind
                   obtain ⟨cs1,s1,s2,s3⟩:=x9b (vs:=vs.toList) hw (m:=l.base+off+len*i.size) (by grind);refine .plain ⟨by rw [s1];grind,q1,q2,q3,cs1,el,s1,by grind,fun k hk=> ?_⟩;obtain ⟨v,r1,r2⟩:=q6 k hk
                   grind
                  .simp only [DP];omega
                  .rw [hod];have e2:l.base+off+len*i.size=l.base+blk.cells.length:=(by omega);rw [e2]
                   simpa only [Cg,St.withMem] using eB
                 .exact anew _ _ (st.withMem (Wm st.mem b none)) (by omega) (h.kill b) (Ev.ofKill h floor hρ) rfl rfl ha
          .cases ha
         .cases ha
        .cases ha
      .cases ha
     .cases ha
    .cases ha
 .cases ha
theorem w4q {get:Nat->zx} {off len n sz N:Nat} {new:zx} (hl: ∀i,i<N->(get i).length =sz) (hN:off+len=N) (hnew:new.length=n*sz):
  (∀i,i<len+n->(Zg get off len sz new i).length =sz)/\rows (len+n) (Zg get off len sz new)=((rows N get).drop (off*sz)).take (len*sz)++new:=by
 have h1: ∀i,i<len+n->(Zg get off len sz new i).length =sz:=fun i hi=>by
  unfold Zg;cases e:Nat.ble len i with
  | true=>
   have:=Al e;simp only [Af,Bf,Be,hnew];have:(i - len+1)*sz<=n*sz:=AD sz (by omega)
   grind
  | false=>
   have: ¬len<=i:=fun h=>by rw [AU h] at e;cases e
   grind
 refine ⟨h1,?_⟩;have eC:=Yk (len+n) h1;have hlenN:=Yk N hl;have hd:((rows N get).drop (off*sz)).length =len*sz:=by rw [Be,hlenN,<-hN,AV];omega
 rw [A4 (by omega)];apply List.ext_getElem?;intro i;by_cases hi:i<(len+n)*sz
 .have hsz:0<sz:=by
   grind
  have hj:i %sz<sz:=Bw _ hsz;have hq:i / sz<len+n:=Bg (by grind);have e:i=i / sz*sz+i %sz:=by rw [BE];exact (Bx i sz).symm
  generalize i / sz=q at*;generalize i %sz=j at*;subst e;rw [Vf (len+n) h1 q j hq hj];unfold Zg;cases e:Nat.ble len q with
  | true=>
   have hle:=Al e;have:len*sz<=q*sz:=AD sz hle;simp only [Af];rw [List.getElem?_append_right (by omega),hd,List.getElem?_take,AG hj,BV]
   congr 1
   rw [Nat.sub_mul];omega
  | false=>
   have hlt:q<len:=by
    rcases A7 q len with h | h
    .exact h
    .rw [AU h] at e;cases e
   have:(q+1)*sz<=len*sz:=AD sz hlt;rw [AV,BZ] at this;simp only [Ab];rw [List.getElem?_append_left (by omega),BV,<-Vf N hl (off+q) j (by omega) hj]
   grind
 grind
theorem w4s (n:Nat) (z:zx):Cp n z=rows n fun _=>z:=by unfold Cp rows;rw [List.flatMap_def,List.map_const',List.length_range]
theorem Ev.remem {ρ':B9} {floor:Nat} {m m' m'':CE} {n n':Nat} {w w':World} (h:Ev ρ ρ' floor m n m' n' w w') (hm: ∀b,b<n-> ∀cs ty,Yi m b=some ⟨cs,ty,none⟩->Yi m'' b=Yi m' b):Ev ρ ρ' floor m n m'' n' w w':=
 ⟨h.ext,h.new,h.nxt,fun b hb e cs ty hc=>by rw [hm b hb cs ty hc];exact h.unborn b hb e cs ty hc,h.frame,h.fresh,h.size,h.os,h.tape,h.output,h.still⟩
theorem CB.remem {mem mem':CE} {next:Nat} {w:World} (h:CB ρ mem next w) (hm: ∀b,Yi mem' b=Yi mem b):CB ρ mem' next w:=
 ⟨h.dom,fun b b' l l' e e' he hs hs'=>h.inj b b' l l' e e' he (by grind) (by grind),fun b l ab e hc=>h.blk b l ab e (by grind),h.old,fun b l e hs=>h.sep b l e (by grind),h.real,fun b hb=>by rw [hm];exact h.bd b hb,h.ldom⟩
theorem y2z {cx:CL} {st st':St} {w:World} (h:CB ρ st.mem st.next w) {t:TypeId} {x y v:B5} {ux uy:Value} (hb:Kh P cx st t x y=some (v,st')) (hob:st'.ob=true) (hx:Zn ρ x ux) (hy:Zn ρ y uy):
  ∃ρ' u w',(Instr.makeSlice t ux uy).run P w=.ok u w'/\D2 ρ cx.floor st st' v w ρ' u w':=by
 unfold Kh at hb;split at hb
 .rename_i e kl l kc c hu;split at hb
  .rename_i i zero hi hz;cases eY:(Nat.beq zero.length i.size&&Nat.ble 1 i.size) with
   | false=>grind
   | true=>
    rw [eY,Af] at hb;simp only [Ad] at eY;obtain ⟨k1,k2⟩:=eY;have hzl:=Ai k1;simp only [Ao,Ac] at hb;obtain ⟨st1,ho,rfl,rfl⟩:=hb;obtain ⟨o1,o2,o3,o4⟩:=Rp ho;obtain ⟨hc,_⟩:=o4 hob;have m2:st1.mem=Wm st.mem st.next (some ⟨rows c.toNat fun _=>zero,e,some ⟨i.size,c.toNat,.flat fun _=>zero⟩⟩):=o2
    have n2:st1.next=st.next+1:=o3
    have h0:Jm P st t (.int kl l) (.int kc c)=some (.sl st.next 0 l.toNat (.ex c.toNat),Cg st (Cp c.toNat zero) e):=by simp_all [Jm]
    obtain ⟨ρ',uv,w',eE,hp,_,_⟩:=ZH h cx.floor h0 hx hy;refine ⟨ρ',uv,w',eE,?_,?_,?_⟩
    .have hv:=hp.val;cases hv with
     | sl _ _ _ _ l' c' hρ' gA fX=>
      have hbk:=hp.rel.blk st.next l' ⟨Cp c.toNat zero,e,none⟩ hρ' (Zs _ _ _)
      have hcn:c'=c.toNat:=gA;have q1:=hbk.n;have q2:=hbk.tot;simp only [RT,hzl] at q1;have:=Zn.sla (ρ:=ρ') st.next i.size 0 l.toNat (.un i.size) l' c' hρ' (by grind [DP]) fX
      grind
    .have hr:CB ρ' (Wm st.mem st.next (some ⟨Cp c.toNat zero,e,none⟩)) (st.next+1) w':=hp.rel;rw [w4s] at hr;rw [m2,n2];obtain ⟨_,_,_,_,hzr,_⟩:=Ws (ρ:=ρ) hz;exact hr.setArr ⟨i.size,c.toNat,_⟩ (RI (ρ:=ρ) (fun v hv=>.inl (Ua.mem hzr v (w4p hv).choose_spec.2)) _ _) rfl (Al k2) fun _ _=>hzl
    .rw [m2,n2];refine hp.ev.remem fun b' hb' cs ty hcs=> ?_;show _=Yi (Wm st.mem st.next _) b'
     grind [Zw]
  .cases hb
 .cases hb
theorem z8b {cx:CL} {st st':St} {w:World} (h:CB ρ st.mem st.next w) {ts:Array TypeId} {type:TypeId} {xs:zx} {us:Array Value} {v:B5} (ha:MG P cx st ts.toList xs=some (v,st')) (hob:st'.ob=true) (hx:Ux (Zn ρ) xs us.toList) (hty:tyOk P st.mem ts.toList xs=true):
  ∃ρ' u w',(Builtin.append_ ts type us).run P w=.ok u w'/\D2 ρ cx.floor st st' v w ρ' u w'/\ ∀b sz off len z r blk l,xs=.sla b sz off len (.un z)::r->Yi st.mem b=some blk->ρ b=some l->Vv ρ w' blk l:=by
 obtain ⟨ul⟩:=us;simp only at hx;unfold MG at ha;split at ha
 .rename_i t u tr b sz off len z x xr hts;split at ha
  .rename_i e ut hu hut;split at ha
   .cases ha
   .rename_i hni;split at ha
    .rename_i i hi;split at ha
     .rename_i n new zero blk hc hz hm;split at ha
      .rename_i A hA;cases eY:(Nat.beq zero.length i.size&&Nat.beq new.length (n*i.size)&&Nat.ble 1 i.size&&new.all Ci&&Nat.beq sz i.size&&Nat.beq z sz&&Nat.ble cx.floor b&&Nat.ble 1 n) with
       | false=>grind
       | true=>
        rw [eY,Af] at ha;have hchk0:=eY;simp only [Ad] at eY;obtain ⟨⟨⟨⟨⟨⟨⟨k1,k2⟩,k3⟩,k4⟩,k5⟩,k6⟩,k7⟩,k8⟩:=eY;obtain rfl:=Ai k5;obtain rfl:=Ai k6;have hnl:=Ai k2;have hsz1:=Al k3;have hfl:=Al k7;have hn1:=Al k8;simp only [Ao,Ac] at ha;obtain ⟨st1,ho,rfl,rfl⟩:=ha;obtain ⟨o1,o2,o3,o4⟩:=Rp ho;obtain ⟨hb,_⟩:=o4 hob;simp only [Ad,An] at hb;obtain ⟨hAs,hfull,eI⟩:=hb;have hAs:=Ai hAs;have hbn:b<st.next:=by
         rcases A7 b st.next with g | g
         .exact g
         .rw [h.bd b g] at hm;cases hm
        have m2:st1.mem=Wm (Wm st.mem b none) st.next (some ⟨rows (len+n) (Zg A.get off len i.size new),e,some ⟨i.size,len+n,Zg A.get off len i.size new⟩⟩):=o2
        have n2:st1.next=st.next+1:=o3
        cases hx with
        | cons ha0 hr=>
         cases ha0 with
         | sla _ _ _ _ _ l c hρ eJ eC=>
          have hb0:=(h.blk b l blk hρ hm).rows hA;have hno:=hb0.noObj;obtain ⟨fI,fY,eP⟩:=hb0.arr A hA;rw [hAs] at eP;obtain ⟨q1,q2⟩:=w4q (new:=new) eP hfull hnl;have hlenr:=Yk A.n eP;have hmul:off*i.size+len*i.size=A.n*i.size:=(by grind);have hcut:cut blk.cells (off*i.size) (len*i.size)=some ((blk.cells.drop (off*i.size)).take (len*i.size)):=by
           unfold cut;simp only;rw [show Nat.beq ((blk.cells.drop (off*i.size)).take (len*i.size)).length (len*i.size)=true from by
            rw [Nat.beq_eq];simp [fI,hlenr];omega]
           rfl
          have hroom':Nat.ble ((len+n+1)*(i.bytes+1)) Vw=true:=AU eI;have hnot:Nat.ble (off*i.size+(len+n)*i.size) blk.cells.length=false:=by
           have:1*i.size<=n*i.size:=AD _ hn1;cases g:Nat.ble (off*i.size+(len+n)*i.size) blk.cells.length with
           | false=>rfl
           | true=>
            have:=Al g
            grind
          have hat:Nat.beq (off*i.size+len*i.size) blk.cells.length=true:=(by simp_all);have h0:Fr P cx.floor st ts.toList (.sl b (off*i.size) len (.un i.size)::x::xr)=some (.sl st.next 0 (len+n) (.un i.size),Cg (st.withMem (Wm st.mem b none)) (((blk.cells.drop (off*i.size)).take (len*i.size))++new) e):=by
           rw [hts];unfold Fr;simp only [hu,hut,hi,hz]
           grind [Jd]
          obtain ⟨ρ',uv,w',eE,hp,_,hkeep⟩:=VB (type:=type) h cx.floor h0 (us:=⟨_⟩) (.cons (.sl _ _ _ _ l c hρ eJ eC) hr) (by rw [hts] at hty ⊢;simpa [tyOk,JP,hu,hm] using hty);refine ⟨ρ',uv,w',eE,⟨?_,?_,?_⟩,fun b' sz' off' len' z' r' blk' l' e hm' hl'=> ?_⟩
          rotate_left 3
          .injection e with e1 _;injection e1 with f1 _ _ _ _;subst f1;rw [hm] at hm';obtain rfl:=Ag hm';have hxs: ∃b2 o2 c2,x=.sl b2 o2 n c2:=by
            unfold Xa at hc;split at hc
            .grind
            .split at hc
             .obtain ⟨_,hc⟩:=MU hc;simp_all
             .cases hc
            .cases hc
           obtain ⟨b2,o2,c2,rfl⟩:=hxs;exact hkeep.1 _ _ _ _ _ _ _ _ _ _ _ rfl hn1 hm (by grind) hl'
          .have hv:=hp.val;cases hv with
           | sl _ _ _ _ l' c' hρ' gA fX=>
            have:=Zn.sla (ρ:=ρ') st.next i.size 0 (len+n) (.un i.size) l' c' hρ' (by grind) fX
            grind
          .have hr:=hp.rel;rw [m2,n2];have hr:CB ρ' (Wm (Wm st.mem b none) st.next (some ⟨((blk.cells.drop (off*i.size)).take (len*i.size))++new,e,none⟩)) (st.next+1) w':=hr;have gB:=RI (ρ:=ρ) (cs:=((blk.cells.drop (off*i.size)).take (len*i.size))++new) (fun v hv=>(AW.1 hv).elim (fun k=>.inl (hb0.mem v (List.mem_of_mem_drop (List.mem_of_mem_take k)))) (fun k=>.inr (Ax.1 k4 v k))) e none;rw [fI,<-q2] at hr gB;exact hr.setArr ⟨i.size,len+n,_⟩ gB rfl hsz1 q1
          .rw [m2,n2];refine hp.ev.remem fun b' hb' cs ty hcs=> ?_;have hne:b'≠b:=fun e=>by grind
           show _=Yi (Wm (Wm st.mem b none) st.next _) b';rw [Zw _ _ (by omega),Zw _ _ hne,Zw _ _ (by omega),Zw _ _ hne]
         | slan=>
          have hq:=w4q (get:=fun _=>List.replicate i.size B5.undef) (off:=0) (len:=0) (N:=0) (new:=new) (fun i hi=>absurd hi (AJ _)) rfl hnl;have hfe:Zg (fun _=>List.replicate i.size B5.undef) 0 0 i.size new=Zg A.get off 0 i.size new:=rfl;rw [hfe] at hq;obtain ⟨q1,q2⟩:=hq;have hn0:Nat.beq n 0=false:=by cases n with | zero=>omega | succ n=>rfl
          have hroom':Nat.ble ((n+1)*(i.bytes+1)) Vw=true:=AU (by grind);have h0:Fr P cx.floor st ts.toList (.nils ::x::xr)=some (.sl st.next 0 n (.un i.size),Cg st new e):=by
           rw [hts];unfold Fr
           grind [Jd]
          obtain ⟨ρ',uv,w',eE,hp,_,hkeep⟩:=VB (type:=type) h cx.floor h0 (us:=⟨_⟩) (.cons .nils hr) (by rw [hts];simp [tyOk,hu]);refine ⟨ρ',uv,w',eE,⟨?_,?_,?_⟩,fun b' sz' off' len' z' r' blk' l' e hm' hl'=> ?_⟩
          rotate_left 3
          .have hq:=h.blk b' l' blk' hl' hm';refine hq.world (B9.le_refl ρ) ?_;obtain ⟨_,g1⟩:=hq.some;rw [g1];exact hkeep.2 _ rfl _ _ g1
          .have hv:=hp.val;rw [Ak];cases hv with
           | sl _ _ _ _ l' c' hρ' gA fX=>
            have:=Zn.sla (ρ:=ρ') st.next i.size 0 n (.un i.size) l' c' hρ' (by grind) fX
            grind
          .have hr:CB ρ' (Wm st.mem st.next (some ⟨new,e,none⟩)) (st.next+1) w':=hp.rel;have hr:=hr.kill b;have hr:CB ρ' (Wm (Wm st.mem b none) st.next (some ⟨new,e,none⟩)) (st.next+1) w':=hr.remem fun b'=>by
            simp only [Vr];by_cases e1:b'=st.next
            .rw [AG e1,Az (by omega),AG e1]
            simp_all
           rw [show new=rows (0+n) (Zg A.get off 0 i.size new) by rw [q2];simp] at hr;rw [m2,n2];have gB:=u1v k4 e none;rw [show new=rows (0+n) (Zg A.get off 0 i.size new) by rw [q2];simp] at gB;have:=hr.setArr ⟨i.size,0+n,Zg A.get off 0 i.size new⟩ gB rfl hsz1 q1;exact this
          .rw [m2,n2];refine hp.ev.remem fun b' hb' cs ty hcs=> ?_;have hne:b'≠b:=fun e=>by grind
           show _=Yi (Wm st.mem st.next _) b';rw [Zw _ _ (by omega),Zw _ _ hne,Zw _ _ (by omega)]
      .cases ha
     .cases ha
    .cases ha
  .cases ha
 .cases ha
theorem CB.ghost {mem:CE} {next:Nat} {w:World} (h:CB ρ mem next w) (o:Option CA):CB ρ (Wm mem next o) (next+1) w:=by
 have ne: ∀c l,ρ c=some l->c≠next:=fun c l e=>Bj (h.dom c l e)
 refine ⟨fun c l e=>Bm (h.dom c l e),fun c c' m m' e e' he hs hs'=> ?_,fun c m ac e hc=> ?_,h.old,fun c m e hs=> ?_,h.real,fun c hc=> ?_,⟨fun j l e=>Bm (h.ldom.1 j l e),h.ldom.2⟩⟩
 .rw [Zw _ _ (ne _ _ e)] at hs;rw [Zw _ _ (ne _ _ e')] at hs';exact h.inj c c' m m' e e' he hs hs'
 .rw [Zw _ _ (ne _ _ e)] at hc;exact h.blk c m ac e hc
 .rw [Zw _ _ (ne _ _ e)] at hs;exact h.sep c m e hs
 .rw [Zw _ _ (by omega)];exact h.bd c (by omega)
theorem Ev.ghost {mem:CE} {next:Nat} {w:World} (h:CB ρ mem next w) (floor:Nat) (o:Option CA):Ev ρ ρ floor mem next (Wm mem next o) (next+1) w w where
 ext:=B9.le_refl _
 new _ _:=rfl
 nxt:=BY _
 unborn k hk _ cs ty hm:=by grind [Zw]
 frame _ _ hk _:=hk
 fresh k m hk e:=by have:=h.dom k m e;omega
 size:=Aj _
 os:=rfl
 tape:=rfl
 output:=rfl
 still _ _:=rfl
theorem v7e {mem:CE} {next:Nat} {w:World} (h:CB ρ mem next w) {n sz:Nat} {g:Nat->zx} {ux:Value} (hx:Zn ρ (.dat n g) ux) (hg: ∀i,i<n->(g i).length =sz) (hsz:1<=sz):
  (∀w,(Builtin.lenOf ux).run P w=.ok n w)/\ ∃vs:Array Value,Ua ρ (rows n g) vs/\ ∀d,(Builtin.firstCells sz n ux).run P {w with drawn:=d}=.ok vs {w with drawn:=d}:=by
 cases hx with
 | datn=>exact ⟨fun w=>by simp [Builtin.lenOf], #[],⟨by simp [rows],fun i h1 h2=>by grind⟩,fun d=>by simp [Builtin.firstCells]⟩
 | datz=>exact ⟨fun w=>by simp [Builtin.lenOf], #[],⟨by simp [rows],fun i h1 h2=>by grind⟩,fun d=>by simp [Builtin.firstCells,loadCells,loadCellsFrom]⟩
 | dat _ _ blk base sz' cap val eJ gG hv hh=>
  refine ⟨fun w=>by simp [Builtin.lenOf],?_⟩;have hl:=Yk n hg;have hdiv: ∀k,k<n*sz->k / sz<n/\k %sz<sz/\k / sz*sz+k %sz=k:=fun k hk=>
   ⟨Bg (by grind),Bw _ hsz,by rw [BE];exact Bx k sz⟩
  have eW: ∀(d k:Nat),k<n*sz->({w with drawn:=d}:World).cell? ((⟨blk,base,none⟩:Addr).add k)=some (val (k / sz) (k %sz)):=by
   intro d k hk;obtain ⟨hq,hj,e4⟩:=hdiv k hk;have hs:sz'=sz:=by grind
   obtain ⟨cs,el,fz,e1,e2⟩:=hh (k / sz) (k %sz) hq (by omega);have e3:=h.old _ _ e1
   grind [Xo,World.cell?]
  refine ⟨_,⟨?_,?_⟩,fun d=>by simp only [Builtin.firstCells];exact run_loadCells _ _ _ (fun k=>val (k / sz) (k %sz)) (eW d)⟩
  .simp [hl]
  .intro k h1 h2;obtain ⟨hq,hj,e4⟩:=hdiv k (by grind);have hj':k %sz<(g (k / sz)).length :=by grind
   have hr:=Vf n hg (k / sz) (k %sz) hq hj;rw [e4,At h1,At hj'] at hr;rw [Ag hr]
   simpa using (hv (k / sz) (k %sz) hq hj').mono (RZ ρ)
theorem Rt {g:Nat->zx} {p:B5->Bool} (n:Nat) (h: ∀i,i<n->(g i).all p=true):(rows n g).all p=true:=by
 grind [rows]
theorem RL {get:Nat->zx} {sz N off len:Nat} (hl: ∀i,i<N->(get i).length =sz) (h:off+len<=N):rows len (fun k=>get (off+k))=((rows N get).drop (off*sz)).take (len*sz):=by
 have h1: ∀k,k<len->(get (off+k)).length =sz:=fun k hk=>hl _ (by omega);have hL:=Yk len h1;have hN:=Yk N hl;have hm:(off+len)*sz<=N*sz:=AD _ h;rw [AV] at hm;apply List.ext_getElem?;intro i;by_cases hi:i<len*sz
 .have hsz:0<sz:=by
   grind
  have hj:i %sz<sz:=Bw _ hsz;have hq:i / sz<len:=Bg (by grind);have e:i / sz*sz+i %sz=i:=by rw [BE];exact Bx i sz
  have a1:=Vf len h1 (i / sz) (i %sz) hq hj;have a2:=Vf N hl (off+i / sz) (i %sz) (by omega) hj
  grind
 grind
theorem x8u (s:zy):rows s.length (Uk s)=s.map fun b=>B5.int .u8 b.toNat:=by
 unfold rows Uk;rw [<-List.map_eq_flatMap];refine Bt (by simp) fun i h1 h2=> ?_;have hi:i<s.length:=by simpa using h2
 simp only [BQ,List.getElem_range];unfold CW;rw [A9,At hi];rfl
theorem x2i {mem:CE} {next:Nat} {w:World} (h:CB ρ mem next w) {t u e:TypeId} {ut:TypeDesc} {i:TypeInfo} {z:Value} {zero:zx} {x:B5} {ux:Value} {n:Nat} {g:Nat->zx} {o:Bool} (hu:P.underlying t=some (.slice e)) (hut:P.underlying u=some ut) (hi:P.info? e=some i) (hz:i.zero=some z)
  (hzr:Ua ρ zero z.cells) (hzl:zero.length=i.size) (hzs:zero.all Ci=true) (hsz:1<=i.size) (hc:XC mem i.size zero ut x=some (n,g,o)) (ho:o=true) (hx:Zn ρ x ux):
  (∀k,k<n->(g k).length =i.size)/\ ∃vs,XV P ρ t u e i z ux n (rows n g) vs w/\ ∀v∈vs.toList,v.oneCell'=true:=by
 subst ho;unfold XC at hc;split at hc
 .rename_i k m;split at hc
  .rename_i kt;simp only [Ae,Ac] at hc;obtain ⟨rfl,rfl,h0⟩:=hc;have hcs:Jd mem i.size zero (.int kt) (.int k m)=some (m.toNat,Cp m.toNat zero):=by
    grind [Jd]
   obtain ⟨vs,hF⟩:=Ka (P:=P) (u:=u) (t:=t) h hu hut hi hz hzr hzl hcs hx (by rw [RT,hzl]);rw [w4s] at hF;exact ⟨fun _ _=>hzl,vs,hF,Zn.cells_oneCell hF.rel (Rt _ fun _ _=>hzs)⟩
  .cases hc
 .rename_i nn gg;split at hc
  .cases hc
  .rename_i hni;simp only [Ae,Ac] at hc;obtain ⟨rfl,rfl,h0⟩:=hc;have hp:=Pg h0;obtain ⟨eC,vs,hvs,hfc⟩:=v7e (P:=P) h hx (fun i hi=>(hp i hi).1) hsz;have fZ:(Builtin.firstCells i.size nn ux).run P w=.ok vs w:=hfc w.drawn;have hfc1:(Builtin.firstCells i.size nn ux).run P w.drew=.ok vs w.drew:=hfc (w.drawn+1);exact ⟨fun i hi=>(hp i hi).1,vs,⟨hvs,fun _ eI _ hst hno=>ZB hu hut (fun k e=>hni k e) hi (eC w) fZ eI hst hno,fun hold eI fA=>ZG hu hut (fun k e=>hni k e) hi hz (eC w) hfc1 hold eI fA⟩,
    Zn.cells_oneCell hvs (Rt _ fun i hi=>(hp i hi).2)⟩
 .split at hc
  .cases hc
  .rename_i hni;simp only [Ae,Ac] at hc;obtain ⟨rfl,rfl,_⟩:=hc;have hcs:Jd mem i.size zero ut .nils =some (0,[]):=by
    unfold Jd;split
    .grind
    .rfl
   obtain ⟨vs,hF⟩:=Ka (P:=P) (u:=u) (t:=t) h hu hut hi hz hzr hzl hcs hx (by simp);exact ⟨fun k hk=>absurd hk (AJ _),vs,hF,Zn.cells_oneCell hF.rel rfl⟩
 .rename_i b zz off len0 cap;split at hc
  .cases hc
  .rename_i hni;split at hc
   .rename_i cells ty A hm;simp only [Ae,Ac,Ad,An] at hc;obtain ⟨rfl,rfl,h1,h2,eM,h4⟩:=hc;have hp:=Pg h4;have h1:=Ai h1;have h2:=Ai h2;subst h1;have nc: ∀v,Jd mem i.size zero ut v=Xa mem i.size v:=fun v=>by
     grind [Jd]
    cases hx with
    | sla _ _ _ _ _ l c hρ eJ hlc=>
     obtain ⟨fI,fY,eP⟩:=(h.blk b l _ hρ hm).arr A rfl;rw [h2] at eP;simp only at fI;have hrp:=RL eP eM;have hlr:=Yk A.n eP;have hm2:(off+len0)*i.size<=A.n*i.size:=AD _ eM;rw [AV] at hm2;have eC:((cells.drop (off*i.size)).take (len0*i.size)).length =len0*i.size:=by
      grind
     have hcut:cut cells (off*i.size) (len0*i.size)=some ((cells.drop (off*i.size)).take (len0*i.size)):=by simp_all [cut]
     have hcs:Jd mem i.size zero ut (.sl b (off*i.size) len0 (.ex c))=some (len0,(cells.drop (off*i.size)).take (len0*i.size)):=by have hno:(⟨cells,ty,some A⟩:CA).isObj =false:=((h.blk b l _ hρ hm).rows rfl).noObj;rw [nc];simp [Xa,hm,hcut,hno]
     obtain ⟨vs,hF⟩:=Ka (P:=P) (u:=u) (t:=t) h hu hut hi hz hzr hzl hcs (.sl b (off*i.size) len0 (.ex c) l c hρ rfl hlc) eC;rw [fI,<-hrp] at hF;exact ⟨fun k hk=>(hp k hk).1,vs,hF,Zn.cells_oneCell hF.rel (Rt _ fun k hk=>(hp k hk).2)⟩
    | slan=>
     have hcs:Jd mem i.size zero ut .nils =some (0,[]):=by rw [nc];rfl
     obtain ⟨vs,hF⟩:=Ka (P:=P) (u:=u) (t:=t) h hu hut hi hz hzr hzl hcs .nils (by simp);exact ⟨fun k hk=>absurd hk (AJ _),vs,hF,Zn.cells_oneCell hF.rel rfl⟩
   .cases hc
 .rename_i s;split at hc
  .obtain ⟨hs1,hc⟩:=Gi hc;have hs1:=Ai hs1;simp only [Ae,Ac] at hc;obtain ⟨rfl,rfl,_⟩:=hc;cases hx;have hvs:Ua ρ (rows s.length (Uk s)) (s.map fun b=>Value.int .u8 b.toNat).toArray :=by rw [x8u];refine ⟨by simp,fun j h1 h2=> ?_⟩;simp only [BQ,List.getElem_toArray];exact .int _ _
   have hl: ∀w,(Builtin.lenOf (.string ⟨s.toArray⟩)).run P w=.ok s.length w:=fun w=>by simp [Builtin.lenOf,<-ByteArray.size_data]
   have hfc: ∀w,(Builtin.firstCells i.size s.length (.string ⟨s.toArray⟩)).run P w=.ok (s.map fun b=>Value.int .u8 b.toNat).toArray w:=fun w=>by simp [Builtin.firstCells,ByteArray.data_extract]
   exact ⟨fun k hk=>hs1.symm,_,⟨hvs,fun _ eI _ hst hno=>ZB hu hut (fun k e=>by cases e) hi (hl w) (hfc w) eI hst hno,fun hold eI fA=>ZG hu hut (fun k e=>by cases e) hi hz (hl w) (hfc _) hold eI fA⟩,
    Zn.cells_oneCell hvs (Rt _ fun i hi=>rfl)⟩
  .cases hc
 .cases hc
def j6q (P:Program) (ρ:B9) (floor:Nat) (mem mem':CE) (next:Nat) (sz:Nat) (e:TypeId) (N:Nat) (G:Nat->zx) (w:World) (r:World->Result Value):Prop:=
 ∃ρ' u w',r w=.ok u w'/\Zn ρ' (.sla next sz 0 N (.un sz)) u/\CB ρ' (Wm mem' next (some ⟨rows N G,e,some ⟨sz,N,G⟩⟩)) (next+1) w'/\Ev ρ ρ' floor mem next (Wm mem' next (some ⟨rows N G,e,some ⟨sz,N,G⟩⟩)) (next+1) w w'
theorem y7v {mem:CE} {next:Nat} {w:World} (h:CB ρ mem next w) (floor:Nat) {t u e:TypeId} {type:TypeId} {ts:List TypeId} {xs:List Value} {i:TypeInfo} {z ux:Value} {n:Nat} {new:zx} {vs:Array Value} (hF:XV P ρ t u e i z ux n new vs w)
  (eS: ∀v∈vs.toList,v.oneCell'=true) (hnl:new.length=n*i.size) (hzs:z.cells.size=i.size) (hsz:1<=i.size) {len c off b:Nat} {l:CT} {blk:CA} (hrm:(len+n+1)*(i.bytes+1)<=Vw)
  (hρ:ρ b=some l) (hm:Yi mem b=some blk) (hno:blk.isObj=false) (hfl:floor<=b) (hoff:off+len*i.size<=blk.cells.length) (hlc:len<=c) (eJ:(l.n<=off+c*i.size/\off+c*i.size<=l.tot)\/c<=len)
  {G:Nat->zx} (hG:rows (len+n) G=(blk.cells.drop off).take (len*i.size)++new) (hGl: ∀k,k<len+n->(G k).length =i.size) (htyb:blk.ty=e):
  j6q P ρ floor mem (Wm mem b none) next i.size e (len+n) G w fun w=>(Builtin.append_ (t::u::ts).toArray type ((.slice (some ⟨l.blk,l.base+off,none⟩) len c)::ux::xs).toArray).run P w:=by
 have hvs:=hF.rel;have hvsz:vs.size=n*i.size:=by rw [<-hvs.1];exact hnl
 have hbk:=(h.blk b l blk hρ hm).at hno;have hln:=hbk.n;have htot:=hbk.tot;have hmul:(len+n)*i.size=len*i.size+n*i.size:=AV _ _ _;have hcut:cut blk.cells off (len*i.size)=some ((blk.cells.drop off).take (len*i.size)):=by unfold cut;simp only;rw [show Nat.beq ((blk.cells.drop off).take (len*i.size)).length (len*i.size)=true from by rw [Nat.beq_eq];simp;omega];rfl
 have hcos:Xa mem i.size (.sl b off len (.ex c))=some (len,(blk.cells.drop off).take (len*i.size)):=by simp [Xa,hm,hcut,hno]
 have holdl:((blk.cells.drop off).take (len*i.size)).length =len*i.size:=by simp;omega
 obtain ⟨_,hfo⟩:=Um (P:=P) h hcos (.sl b off len (.ex c) l c hρ rfl hlc) holdl;obtain ⟨ovs,hovs,hof⟩:=hfo len (Aj _);rw [A4 (by omega)] at hovs;have hovz:ovs.size=len*i.size:=by rw [<-hovs.1];exact holdl
 have hof1:(Builtin.firstCells i.size len (.slice (some ⟨l.blk,l.base+off,none⟩) len c)).run P w.drew=.ok ovs w.drew:=hof (w.drawn+1);have hrn:n=0\/(n+1)*(i.bytes+1)<=1099511627776:=.inr (AP (AD _ (by omega)) hrm);have gB:(⟨rows (len+n) G,e,none⟩:CA).isObj =false:=by rw [hG];exact RI (fun v hv=>.inl (Ua.mem (hovs.append hvs) v hv)) _ _
 by_cases eI:len+n<=c
 ·-- there is Vw
  have hcm:(len+n)*i.size<=c*i.size:=AD _ eI;obtain ⟨T,t1,t2,t3⟩: ∃T,off+len*i.size - off+new.length<=T/\off+T<=l.tot/\c*i.size<=T:=by
   rcases eJ with ⟨c1,c2⟩ | c1
   .exact ⟨l.tot - off,by omega,by omega,by omega⟩
   .have:n=0:=(by omega);subst this;have:c=len:=(by omega);subst this;exact ⟨c*i.size,by omega,by omega,by omega⟩
  obtain ⟨cur,el,hw,hcsz,eB⟩:=h.beyond2 hρ hm hno (off:=off) (m:=off+len*i.size) (T:=T) (new:=new) (vs:=vs.toList) e (by grind) (by omega) hoff t1 t2 (fun j h1 h2=>by simpa using hvs.2 j h1 (by grind)) htyb;have hst:=run_storeCells_at P l.blk (l.base+off+len*i.size) el vs.toList 0 cur w hw (by grind) eS;rw [Bn] at hst;have eE:=hF.hin (type:=type) (ts:=ts) (base:=some ⟨l.blk,l.base+off,none⟩) (len:=len) (c:=c) (xs:=xs) hrn eI (w':=w.setRow l.blk (cur.toList.take (l.base+off+len*i.size)++vs.toList++cur.toList.drop (l.base+off+len*i.size+vs.toList.length)).toArray)
   (fun a e=>by cases e;rw [Xo];exact hst) (fun e=>by cases e)
  have hdt:(blk.cells.take (off+len*i.size)).drop off=(blk.cells.drop off).take (len*i.size):=by
   grind
  rw [hdt,<-hG,<-AN] at eB;refine ⟨_,_,_,eE,?_,eB.setArr ⟨i.size,len+n,G⟩ gB rfl hsz hGl,?_⟩
  .have:=Zn.sla (ρ:=Uq ρ next ⟨l.blk,l.base+off,off+len*i.size - off+new.length,T⟩) next i.size 0 (len+n) (.un i.size) ⟨l.blk,l.base+off,off+len*i.size - off+new.length,T⟩ c (by simp [Uq])
    (by grind [DP]) (by omega)
   grind
  grind [Ev.ofBeyond]
 ·-- a new row
  let st:St:=⟨.leaf,mem,next,[],true⟩
  have fB:CB ρ (st.withMem (Wm mem b none)).mem (st.withMem (Wm mem b none)).next w:=h.kill b
  obtain ⟨newCap,gA,rest,eN,eE⟩:=hF.hnew (type:=type) (ts:=ts) (base:=some ⟨l.blk,l.base+off,none⟩) (len:=len) (c:=c) (xs:=xs) hof1 (by omega) (by simpa [Vw] using hrm);have hov:=hovs.append hvs;have hsum:(ovs++vs).size +rest.size=newCap*i.size:=by rw [Array.size_append,hovz,hvsz,eN,hzs,<-AV,<-AV];grind
  have hp:=U0 fB floor hov rest e e (.sla next i.size 0 (len+n) (.un i.size)) (.slice (some ⟨w.heap.size,0,none⟩) (len+n) newCap) (fun ρ' hρ'=>by
   have:=Zn.sla (ρ:=ρ') next i.size 0 (len+n) (.un i.size) _ newCap hρ' (by
    grind [DP]) gA
   grind)
  rw [<-hG] at hp;refine ⟨Uq ρ next ⟨w.heap.size,0,(rows (len+n) G).length,(ovs++vs).size +rest.size⟩,_,_,eE,hp.val,?_,?_⟩
  .exact CB.setArr hp.rel ⟨i.size,len+n,G⟩ gB rfl hsz hGl
  .refine ((Ev.ofKill h floor hρ).trans hp.ev).remem fun b' hb' cs ty hcs=> ?_;have hne: ¬b'=next:=Bj hb'
   show Yi (Wm (Wm mem b none) next _) b'=Yi (Wm (Wm mem b none) next _) b';simp only [Vr,Az hne]
theorem x7h {mem:CE} {next:Nat} {w:World} (h:CB ρ mem next w) (floor:Nat) {t u e:TypeId} {type:TypeId} {ts:List TypeId} {xs:List Value} {i:TypeInfo} {z ux:Value} {n:Nat} {new:zx} {vs:Array Value} (hF:XV P ρ t u e i z ux n new vs w)
  (hnl:new.length=n*i.size) (hzs:z.cells.size=i.size) (hsz:1<=i.size) (hrm:(0+n+1)*(i.bytes+1)<=Vw) {G:Nat->zx} (hG:rows (0+n) G=new) (hGl: ∀k,k<0+n->(G k).length =i.size):
  j6q P ρ floor mem mem next i.size e (0+n) G w fun w=>(Builtin.append_ (t::u::ts).toArray type ((.slice none 0 0)::ux::xs).toArray).run P w:=by
 have hvs:=hF.rel;have hvsz:vs.size=n*i.size:=by rw [<-hvs.1];exact hnl
 rcases Nat.eq_zero_or_pos n with hn0 | hnpos
 .subst hn0;have eE:=hF.hin (type:=type) (ts:=ts) (base:=none) (len:=0) (c:=0) (xs:=xs) (.inl rfl) (Aj _) (w':=w) (fun a e=>by cases e) (fun _=>rfl);exact ⟨ρ,_,w,eE,.slan _ _ _ _,h.ghost _,Ev.ghost h floor _⟩
 .obtain ⟨newCap,eJ,rest,eN,eE⟩:=hF.hnew (type:=type) (ts:=ts) (base:=none) (len:=0) (c:=0) (xs:=xs) (old:= #[]) (by simp [Builtin.firstCells]) (by omega) (by simpa [Vw] using hrm);have e0:(#[]:Array Value)++vs=vs:=by simp
  rw [e0] at eE;have hsum:vs.size+rest.size=newCap*i.size:=by rw [hvsz,eN,hzs,<-AV];grind
  let st:St:=⟨.leaf,mem,next,[],true⟩
  have fB:CB ρ st.mem st.next w:=h
  have hp:=U0 fB floor hvs rest e e (.sla next i.size 0 (0+n) (.un i.size)) (.slice (some ⟨w.heap.size,0,none⟩) (0+n) newCap) (fun ρ' hρ'=>by
   have:=Zn.sla (ρ:=ρ') next i.size 0 (0+n) (.un i.size) _ newCap hρ' (by
    grind [DP]) eJ
   grind)
  rw [<-hG] at hp;refine ⟨Uq ρ next ⟨w.heap.size,0,(rows (0+n) G).length,vs.size+rest.size⟩,_,_,eE,hp.val,CB.setArr hp.rel ⟨i.size,0+n,G⟩ (by rw [hG];exact RI (fun v hv=>.inl (Ua.mem hvs v hv)) _ _) rfl hsz hGl,?_⟩
  .refine hp.ev.remem fun b' hb' cs ty hcs=> ?_;have hne: ¬b'=next:=Bj hb'
   show Yi (Wm mem next _) b'=Yi (Wm mem next _) b';simp only [Vr,Az hne]
theorem Qw {α β:Type} {f g:α->List β}: ∀{l:List α},(∀a,a∈l->f a=g a)->l.flatMap f=l.flatMap g
 | [],_=>rfl
 | a::l,h=>by rw [List.flatMap_cons,List.flatMap_cons,h a (by simp),Qw fun b hb=>h b (by simp [hb])]
theorem V3 {get g:Nat->zx} {len n sz:Nat} (hl: ∀i,i<len->(get i).length =sz) (hg: ∀i,i<n->(g i).length =sz):
  (∀i,i<len+n->(Yw get len g i).length =sz)/\rows (len+n) (Yw get len g)=rows len get++rows n g:=by
 have h1: ∀i,i<len+n->(Yw get len g i).length =sz:=fun i hi=>by
  unfold Yw;cases e:Nat.ble len i with
  | true=>
   have:=Al e
   grind
  | false=>
   have: ¬len<=i:=fun h=>by rw [AU h] at e;cases e
   grind
 refine ⟨h1,?_⟩;unfold rows;rw [List.range_add,List.flatMap_append]
 congr 1
 .refine Qw fun i hi=> ?_;have:=A0.1 hi;unfold Yw;rw [show Nat.ble len i=false from AY.2 fun e=>by have:=Al e;omega];rfl
 .rw [List.flatMap_map];refine Qw fun i hi=> ?_;unfold Yw;rw [show Nat.ble len (len+i)=true from AU (Nat.le_add_right _ _),Af,Nat.add_sub_cancel_left]
theorem x9w {sz:Nat}: ∀(n:Nat) (l:zx),l.length=n*sz->rows n (fun k=>(l.drop (k*sz)).take sz)=l/\ ∀k,k<n->((l.drop (k*sz)).take sz).length =sz:=by
 intro n l hl;have h1: ∀k,k<n->((l.drop (k*sz)).take sz).length =sz:=fun k hk=>by
  have:(k+1)*sz<=n*sz:=AD _ hk
  grind
 refine ⟨?_,h1⟩;have eC:=Yk n h1;apply List.ext_getElem?;intro i;by_cases hi:i<n*sz
 .have hsz:0<sz:=by
   grind
  have hj:i %sz<sz:=Bw _ hsz;have hq:i / sz<n:=Bg (by grind);have e:i / sz*sz+i %sz=i:=by rw [BE];exact Bx i sz
  grind [Vf]
 grind
theorem x0f {cx:CL} {st st':St} {w:World} (h:CB ρ st.mem st.next w) {ts:Array TypeId} {type:TypeId} {xs:zx} {us:Array Value} {v:B5} (ha:HF P cx st ts.toList xs=some (v,st')) (hob:st'.ob=true) (hx:Ux (Zn ρ) xs us.toList) (hty:tyOk P st.mem ts.toList xs=true):
  ∃ρ' u w',(Builtin.append_ ts type us).run P w=.ok u w'/\D2 ρ cx.floor st st' v w ρ' u w':=by
 obtain ⟨ts⟩:=ts;obtain ⟨us⟩:=us;simp only at ha hx;unfold HF at ha;split at ha
 .rename_i t tu tts s x txs;cases hx with
  | @cons _ su _ _ hs hx=>
   cases hx with
   | @cons _ ux _ uxs hx _=>
    split at ha
    .rename_i e ut hu hut;split at ha
     .rename_i i zero hi hz;split at ha
      .rename_i b len get o1 n g o2 ht hc;obtain ⟨i2,z,hi2,hz2,hzr,_⟩:=Ws (ρ:=ρ) hz;obtain rfl:i=i2:=by grind
       obtain ⟨eY,ha⟩:=Gi ha;simp only [Ad] at eY;obtain ⟨⟨⟨hzl,hzsc⟩,hsz⟩,hfl⟩:=eY;have hzl:=Ai hzl;have hsz:=Al hsz;have hzs:z.cells.size=i.size:=by rw [<-hzr.1];exact hzl
       simp only [Ao,Ac] at ha;obtain ⟨st1,ho,rfl,rfl⟩:=ha;obtain ⟨_,m2,n2,o4⟩:=Rp ho;obtain ⟨hb,_⟩:=o4 hob;simp only [Ad,An] at hb;obtain ⟨hb1,hb2,hrm⟩:=hb;have m2:st1.mem=Wm (Mf st.mem b) st.next (some ⟨rows (len+n) (Yw get len g),e,some ⟨i.size,len+n,Yw get len g⟩⟩):=m2
       have n2:st1.next=st.next+1:=n2
       obtain ⟨hgl,vs,hF,eS⟩:=x2i (P:=P) (u:=tu) (t:=t) h hu hut hi hz2 hzr hzl hzsc hsz hc hb2 hx.unN;have hnl:=Yk n hgl
       suffices j6q P ρ cx.floor st.mem (Mf st.mem b) st.next i.size e (len+n) (Yw get len g) w fun w=>(Builtin.append_ (t::tu::tts).toArray type (su::ux::uxs).toArray).run P w by obtain ⟨ρ',u,w',eE,hv,hr,hev⟩:=this;exact ⟨ρ',u,w',eE,hv,by grind,by grind⟩
       unfold Pn at ht;split at ht
       .simp only [Ae,Ac] at ht;obtain ⟨rfl,rfl,rfl,_⟩:=ht;cases hs;obtain ⟨q1,q2⟩:=V3 (get:=fun _=>[]) (len:=0) (fun i hi=>absurd hi (AJ _)) hgl;exact x7h h cx.floor hF hnl hzs hsz hrm (by rw [q2];simp [rows]) q1
       .rename_i b0 off len0 cap;split at ht
        .rename_i blk hm;split at ht
         .rename_i old hold;obtain ⟨fS,ht⟩:=Gi ht;simp only [Ad,Bc] at fS;obtain ⟨hno,fS,hoff⟩:=fS;have hoff:=Al hoff;simp only [Ae,Ac] at ht;obtain ⟨rfl,rfl,rfl,_⟩:=ht;obtain ⟨k1,k2,k3⟩:=MH hold;obtain ⟨r1,r2⟩:=x9w len0 old k2;obtain ⟨q1,q2⟩:=V3 r2 hgl;cases hs with
          | sl _ _ _ _ l c hρ eJ hlc=>
           have hbk:=h.blk b0 l blk hρ hm;have k4:off+len0*i.size<=blk.cells.length:=(by omega);refine y7v h cx.floor hF eS hnl hzs hsz hrm hρ hm hno (Al hfl) k4 hlc ?_ (by grind) q1 (by simpa [tyOk,JP,hu,hm] using hty);cases cap with
           | ex k=>exact .inr (by simp only [DP] at eJ;rw [eJ];exact Al fS)
           | un zz=>
            have:=Ai fS
            grind [DP]
         .cases ht
        .cases ht
       .rename_i b0 zz off len0 cap;split at ht
        .rename_i blk hm;split at ht
         .rename_i A hA;obtain ⟨fS,ht⟩:=Gi ht;simp only [Ae,Ac] at ht;obtain ⟨rfl,rfl,rfl,rfl⟩:=ht;simp only [Ad,An] at hb1;obtain ⟨hz1,hz2',eM⟩:=hb1;obtain rfl:=Ai hz1;have hAs:=Ai hz2';cases hs with
          | sla _ _ _ _ _ l c hρ eJ hlc=>
           obtain ⟨fI,fY,eP⟩:=(h.blk b0 l blk hρ hm).arr A hA;rw [hAs] at eP;have hlr:=Yk A.n eP;have hgl0: ∀k,k<len0->(A.get (off+k)).length =i.size:=fun k hk=>eP _ (by omega);obtain ⟨q1,q2⟩:=V3 hgl0 hgl;have hm2:(off+len0)*i.size<=A.n*i.size:=AD _ eM;rw [AV] at hm2;refine y7v h cx.floor hF eS hnl hzs hsz hrm hρ hm ((h.blk b0 l blk hρ hm).rows hA).noObj (Al hfl) (by grind) hlc ?_ (by rw [q2,RL eP eM,fI]) q1 (by simpa [tyOk,JP,hu,hm] using hty);cases cap with
           | ex k=>exact .inr (by simp only [DP] at eJ;rw [eJ];exact Al fS)
           | un zz=>
            have:=Ai fS
            grind [DP]
          | slan=>
           obtain ⟨q1,q2⟩:=V3 (get:=fun k=>A.get (off+k)) (len:=0) (fun i hi=>absurd hi (AJ _)) hgl;obtain ⟨ρ',u,w',eE,hv,hr,hev⟩:=x7h (P:=P) (type:=type) (ts:=tts) (xs:=uxs) h cx.floor hF hnl hzs hsz hrm (G:=Yw (fun k=>A.get (off+k)) 0 g) (by rw [q2];simp [rows]) q1;have hbn:b0<st.next:=by
            rcases A7 b0 st.next with g | g
            .exact g
            .rw [h.bd b0 g] at hm;cases hm
           refine ⟨ρ',u,w',eE,hv,?_,?_⟩
           .refine (hr.kill b0).remem fun b'=> ?_;simp only [Mf,Vr];by_cases e1:b'=st.next
            .rw [AG e1,Az (by omega),AG e1]
            simp_all
           .refine hev.remem fun b' hb' cs ty hcs=> ?_;have hne:b'≠b0:=fun e=>by grind
            show Yi (Wm (Wm st.mem b0 none) st.next _) b'=Yi (Wm st.mem st.next _) b';rw [Zw _ _ (by omega),Zw _ _ hne,Zw _ _ (by omega)]
         .cases ht
        .cases ht
       .cases ht
      .cases ha
     .cases ha
    .cases ha
 .cases ha
theorem w3v {st st':St} {w:World} (h:CB ρ st.mem st.next w) (floor:Nat) {ts:Array TypeId} {type:TypeId} {xs:zx} {us:Array Value} {v:B5} (ha:M8 P floor st ts.toList xs=some (v,st')) (hx:Ux (Zn ρ) xs us.toList):
  ∃ρ' u w',(Builtin.copy_ ts type us).run P w=.ok u w'/\D2 ρ floor st st' v w ρ' u w'/\st'.env=st.env/\st'.ob=st.ob:=by
 obtain ⟨ts⟩:=ts;obtain ⟨us⟩:=us;simp only at ha hx;unfold M8 at ha;split at ha
 .rename_i t _ d x _;cases hx with
  | @cons _ ud _ _ hd hx=>
   cases hx with
   | @cons _ ux _ uxs hx _=>
    split at ha
    .rename_i e hu;split at ha
     .rename_i i hi;split at ha
      .rename_i m src hcs;cases hc:(Nat.beq src.length (m*i.size)&&src.all Ci) with
       | false=>grind
       | true=>
        rw [hc,Af] at ha;simp only [Ad] at hc;have hsl:=Ai hc.1;have hsc:=hc.2;obtain ⟨eC,eU⟩:=Um (P:=P) h hcs hx hsl;split at ha
        .cases hd;simp only [Ae,Ac] at ha;obtain ⟨rfl,rfl⟩:=ha;obtain ⟨vs,hvs,hfc⟩:=eU 0 (AH _);have fZ:(Builtin.firstCells i.size 0 ux).run P w=.ok vs w:=hfc w.drawn;refine ⟨ρ,_,w,?_,⟨.int _ _,h,Ev.refl _ _ _ _ _ h.dom⟩,rfl,rfl⟩;simp_all [Builtin.copy_,run_underlying,Zh,goInt]
        .rename_i dn dg;obtain ⟨hdn,ha'⟩:=Gi ha;clear ha;obtain rfl:=Ai hdn;simp only [Ae,Ac] at ha';obtain ⟨rfl,rfl⟩:=ha';obtain ⟨vs,hvs,hfc⟩:=eU 0 (AH _);have fZ:(Builtin.firstCells i.size 0 ux).run P w=.ok vs w:=hfc w.drawn;have hv0:vs= #[]:=by
          have:vs.size=0:=by rw [<-hvs.1];simp
          grind
         subst hv0;cases hd with
         | datn=>refine ⟨ρ,_,w,?_,⟨.int _ _,h,Ev.refl _ _ _ _ _ h.dom⟩,rfl,rfl⟩;simp_all [Builtin.copy_,run_underlying,Zh,goInt]
         | datz=>refine ⟨ρ,_,w,?_,⟨.int _ _,h,Ev.refl _ _ _ _ _ h.dom⟩,rfl,rfl⟩;simp_all [Builtin.copy_,run_underlying,Zh,goInt,storeCells]
         | dat=>refine ⟨ρ,_,w,?_,⟨.int _ _,h,Ev.refl _ _ _ _ _ h.dom⟩,rfl,rfl⟩;simp_all [Builtin.copy_,run_underlying,Zh,goInt,storeCells]
        .rename_i b off len cap;split at ha
         .rename_i blk hm;dsimp only at ha;cases hf:(!blk.isObj&&(Nat.ble floor b&&Nat.ble (off+(Nat.min m len)*i.size) blk.cells.length)) with
          | false=>grind
          | true=>
           rw [hf,Af] at ha;simp only [Ad,Bc] at hf;obtain ⟨hno,hf⟩:=hf;have hfl:=Al hf.1;have eM:=Al hf.2;simp only [Ae,Ac] at ha;obtain ⟨rfl,rfl⟩:=ha;cases hd with
           | sl _ _ _ _ l c hρ eJ hlc=>
            have hmin:Nat.min m len<=m:=Nat.min_le_left _ _;have hmul:Nat.min m len*i.size<=m*i.size:=AD _ hmin;obtain ⟨vs,hvs,hfc⟩:=eU (Nat.min m len) hmin;have fZ:(Builtin.firstCells i.size (Nat.min m len) ux).run P w=.ok vs w:=hfc w.drawn;have eS:=Zn.cells_oneCell hvs (Ax.2 fun a ha=>Ax.1 hsc a (List.mem_of_mem_take ha));have hvl:(src.take (Nat.min m len*i.size)).length =Nat.min m len*i.size:=(by grind);obtain ⟨cur,el,hw,hcsz,eB⟩:=h.write hρ hm (off:=off) (cs:=src.take (Nat.min m len*i.size)) (vs:=vs.toList) hno (by simpa using hvs.1.symm) (by grind) (fun j h1 h2=>by simpa using hvs.2 j h1 (by grind));have hst:=run_storeCells_at P l.blk (l.base+off) el vs.toList 0 cur w hw (by grind) eS;rw [Bn] at hst;refine ⟨ρ,.int .i64 (Nat.min m len),w.setRow l.blk (cur.toList.take (l.base+off)++vs.toList++cur.toList.drop (l.base+off+vs.toList.length)).toArray,?_,⟨.int _ _,?_,Ev.ofWrite h hρ hfl _ _⟩,rfl,rfl⟩;all_goals simp_all [Builtin.copy_,run_underlying,Zh,goInt,St.withMem]
         .cases ha
        .cases ha
      .cases ha
     .cases ha
    .cases ha
 .cases ha
theorem v7d {mem:CE} {next:Nat} {w:World} (h:CB ρ mem next w) {n sz:Nat} {g:Nat->zx} {ux:Value} (hx:Zn ρ (.dat n g) ux) (hg: ∀i,i<n->(g i).length =sz) (hsz:1<=sz) {m:Nat} (hm:m<=n):
  (∀w,(Builtin.lenOf ux).run P w=.ok n w)/\ ∃vs:Array Value,Ua ρ (rows m g) vs/\ ∀d,(Builtin.firstCells sz m ux).run P {w with drawn:=d}=.ok vs {w with drawn:=d}:=by
 cases hx with
 | datn=>
  obtain rfl:m=0:=by omega
  exact ⟨fun w=>by simp [Builtin.lenOf], #[],⟨by simp [rows],fun i h1 h2=>by grind⟩,fun d=>by simp [Builtin.firstCells]⟩
 | datz=>
  obtain rfl:m=0:=by omega
  exact ⟨fun w=>by simp [Builtin.lenOf], #[],⟨by simp [rows],fun i h1 h2=>by grind⟩,fun d=>by simp [Builtin.firstCells,loadCells,loadCellsFrom]⟩
 | dat _ _ blk base sz' cap val eJ gG hv hh=>
  refine ⟨fun w=>by simp [Builtin.lenOf],?_⟩;have hg': ∀i,i<m->(g i).length =sz:=fun i hi=>hg i (by omega);have hl:=Yk m hg';have hdiv: ∀k,k<m*sz->k / sz<m/\k %sz<sz/\k / sz*sz+k %sz=k:=fun k hk=>
   ⟨Bg (by grind),Bw _ hsz,by rw [BE];exact Bx k sz⟩
  have eW: ∀(d k:Nat),k<m*sz->({w with drawn:=d}:World).cell? ((⟨blk,base,none⟩:Addr).add k)=some (val (k / sz) (k %sz)):=by
   intro d k hk;obtain ⟨hq,hj,e4⟩:=hdiv k hk;have hs:sz'=sz:=by grind
   obtain ⟨cs,el,fz,e1,e2⟩:=hh (k / sz) (k %sz) (by omega) (by omega);have e3:=h.old _ _ e1
   grind [Xo,World.cell?]
  refine ⟨_,⟨?_,?_⟩,fun d=>by simp only [Builtin.firstCells];exact run_loadCells _ _ _ (fun k=>val (k / sz) (k %sz)) (eW d)⟩
  .simp [hl]
  .intro k h1 h2;obtain ⟨hq,hj,e4⟩:=hdiv k (by grind);have hj':k %sz<(g (k / sz)).length :=by grind
   have hr:=Vf m hg' (k / sz) (k %sz) hq hj;rw [e4,At h1,At hj'] at hr;rw [Ag hr]
   simpa using (hv (k / sz) (k %sz) (by omega) hj').mono (RZ ρ)
theorem x5o {g:Nat->zx} {sz n m:Nat} (hg: ∀i,i<n->(g i).length =sz) (hm:m<=n):(rows n g).take (m*sz)=rows m g:=by
 have:=RL (off:=0) (len:=m) hg (by omega)
 grind
theorem v3j {get g:Nat->zx} {sz N off n:Nat} (hl: ∀i,i<N->(get i).length =sz) (hg: ∀i,i<n->(g i).length =sz) (h:off+n<=N):
  (∀i,i<N->(Jq get off n g i).length =sz)/\rows N (Jq get off n g)=(rows N get).take (off*sz)++rows n g++(rows N get).drop (off*sz+n*sz):=by
 have h1: ∀i,i<N->(Jq get off n g i).length =sz:=fun i hi=>by
  unfold Jq;cases e:(Nat.ble off i&&Nat.ble (i+1) (off+n)) with
  | true=>
   simp only [Ad] at e;have e1:=Al e.1;have e2:=Al e.2
   grind
  | false=>exact hl _ hi
 refine ⟨h1,?_⟩;obtain ⟨r,rfl⟩: ∃r,N=off+(n+r):=⟨N - off - n,by omega⟩
 have e2:off*sz+n*sz=(off+n)*sz:=(AV _ _ _).symm;rw [x5o hl (by omega),e2];have e3:(rows (off+(n+r)) get).drop ((off+n)*sz)=rows r fun k=>get (off+n+k):=by
  rw [RL (off:=off+n) (len:=r) hl (by omega)];rw [A4];have:=Yk _ hl
  grind
 rw [e3];unfold rows;rw [List.range_add,List.range_add,List.flatMap_append,List.map_append,List.flatMap_append,<-AI]
 congr 1
 .congr 1
  .refine Qw fun i hi=> ?_;have:=A0.1 hi;unfold Jq;rw [show Nat.ble off i=false from AY.2 fun e=>by have:=Al e;omega];rfl
  .rw [List.flatMap_map];refine Qw fun i hi=> ?_;have:=A0.1 hi;unfold Jq;rw [AU (show off<=off+i by omega),AU (show off+i+1<=off+n by omega),Nat.add_sub_cancel_left];rfl
 .rw [List.map_map,List.flatMap_map];refine Qw fun i hi=> ?_;unfold Jq;show (bif Nat.ble off (off+(n+i))&&Nat.ble (off+(n+i)+1) (off+n) then _ else _)=_;rw [show Nat.ble (off+(n+i)+1) (off+n)=false from AY.2 fun e=>by have:=Al e;omega,A2,Ab]
  grind
theorem x3x {mem:CE} {next:Nat} {w:World} (h:CB ρ mem next w) {sz:Nat} (hsz:1<=sz) {x:B5} {ux:Value} {m:Nat} {g:Nat->zx} {o:Bool} (hc:w3f mem sz x=some (m,g,o)) (ho:o=true) (hx:Zn ρ x ux):
  (∀k,k<m->(g k).length =sz/\(g k).all Ci=true)/\ ∀n,n<=m->(∀w,(Builtin.lenOf ux).run P w=.ok m w)/\ ∃vs:Array Value,Ua ρ (rows n g) vs/\ ∀d,(Builtin.firstCells sz n ux).run P {w with drawn:=d}=.ok vs {w with drawn:=d}:=by
 subst ho;have part: ∀(b z off len c:Nat) (l:CT) (blk:CA) (A:DW),ρ b=some l->Yi mem b=some blk->blk.arr=some A->len<=c->(Nat.beq z sz&&(Nat.beq A.sz sz&&(decide (off+len<=A.n)&&Jf sz len fun k=>A.get (off+k))))=true->
   (∀k,k<len->(A.get (off+k)).length =sz/\(A.get (off+k)).all Ci=true)/\ ∀n,n<=len->(∀w,(Builtin.lenOf (.slice (some ⟨l.blk,l.base+off*z,none⟩) len c)).run P w=.ok len w)/\ ∃vs:Array Value,Ua ρ (rows n fun k=>A.get (off+k)) vs/\ ∀d,(Builtin.firstCells sz n (.slice (some ⟨l.blk,l.base+off*z,none⟩) len c)).run P {w with drawn:=d}=.ok vs {w with drawn:=d}:=by
  intro b z off len c l blk A hρ hm hA eC ho;simp only [Ad,An] at ho;obtain ⟨k1,k2,k3,k4⟩:=ho;obtain rfl:=Ai k1;have k2:=Ai k2;have k4:=Pg k4;refine ⟨k4,fun n hn=> ?_⟩;have hno:=((h.blk b l blk hρ hm).rows hA).noObj;obtain ⟨fI,fY,eP⟩:=(h.blk b l blk hρ hm).arr A hA;rw [k2] at eP;have hlr:=Yk A.n eP;have hm2:(off+len)*z<=A.n*z:=AD _ k3;rw [AV] at hm2;have hpl:=RL eP k3;have hL:(rows len fun k=>A.get (off+k)).length =len*z:=Yk len fun i hi=>(k4 i hi).1;have hcs:Xa mem z (.sl b (off*z) len (.ex c))=some (len,rows len fun k=>A.get (off+k)):=by simp_all [Xa,cut]
  obtain ⟨q1,q2⟩:=Um (P:=P) h hcs (.sl b (off*z) len (.ex c) l c hρ rfl eC) hL
  grind [x5o]
 have none0: ∀(g:Nat->zx) (n:Nat) (p:Option Addr) (c:Nat),n<=0->(∀w,(Builtin.lenOf (.slice p 0 c)).run P w=.ok 0 w)/\ ∃vs:Array Value,Ua ρ (rows n g) vs/\ ∀d,(Builtin.firstCells sz n (.slice p 0 c)).run P {w with drawn:=d}=.ok vs {w with drawn:=d}:=by
  intro g n p c hn;obtain rfl:n=0:=by omega
  cases p with
  | none=>exact ⟨fun w=>by simp [Builtin.lenOf], #[],⟨by simp [rows],fun i h1 h2=>by grind⟩,fun d=>by simp [Builtin.firstCells]⟩
  | some a=>refine ⟨fun w=>by simp [Builtin.lenOf],_,⟨?_,fun i h1 h2=>by simp [rows] at h1⟩,fun d=>by simp only [Builtin.firstCells];exact run_loadCells _ _ _ (fun _=>undef) fun k hk=>by grind⟩;simp [rows]
 unfold w3f at hc;split at hc
 .simp only [Ae,Ac] at hc;obtain ⟨rfl,rfl,_⟩:=hc;cases hx;exact ⟨fun k hk=>absurd hk (AJ _),fun n hn=>none0 _ n none 0 hn⟩
 .rename_i n' g';simp only [Ae,Ac] at hc;obtain ⟨rfl,rfl,h0⟩:=hc;have hp:=Pg h0;exact ⟨hp,fun n hn=>v7d (P:=P) h hx (fun i hi=>(hp i hi).1) hsz hn⟩
 .split at hc
  .rename_i blk hm;split at hc
   .rename_i A hA;simp only [Ae,Ac] at hc;obtain ⟨rfl,rfl,h0⟩:=hc;cases hx with
    | sla _ _ _ _ _ l c hρ eJ eC=>grind
    | slan=>exact ⟨fun k hk=>absurd hk (AJ _),fun n hn=>none0 _ n none 0 hn⟩
   .cases hc
  .cases hc
 .split at hc
  .rename_i blk hm;split at hc
   .rename_i A hA;simp only [Ae,Ac] at hc;obtain ⟨rfl,rfl,h0⟩:=hc;cases hx with
    | slv _ _ _ _ l c hρ eC=>grind
    | slve=>exact ⟨fun k hk=>absurd hk (AJ _),fun n hn=>none0 _ n _ _ hn⟩
    | slvn=>exact ⟨fun k hk=>absurd hk (AJ _),fun n hn=>none0 _ n none 0 hn⟩
   .cases hc
  .cases hc
 .cases hc
theorem CB.reblk {mem:CE} {next:Nat} {w:World} (h:CB ρ mem next w) {b:Nat} {blk blk':CA} (hm:Yi mem b=some blk) (hb: ∀l,ρ b=some l->Vv ρ w blk l->Vv ρ w blk' l):CB ρ (Wm mem b (some blk')) next w:=by
 have iff: ∀c,(Yi (Wm mem b (some blk')) c).isSome =true->(Yi mem c).isSome =true:=fun c hc=>by
  grind [Vr]
 have hlt:b<next:=by
  rcases A7 b next with q | q
  .exact q
  .rw [h.bd b q] at hm;cases hm
 refine ⟨h.dom,fun c c' m m' e e' he hs hs'=>h.inj c c' m m' e e' he (iff c hs) (iff c' hs'),fun c m ac e hc=> ?_,h.old,fun c m e hs=>h.sep c m e (iff c hs),h.real,fun c hc=> ?_,h.ldom⟩
 .grind [Vr,blk]
 .rw [Zw _ _ (by omega)];exact h.bd c hc
theorem Ev.put {mem:CE} {next:Nat} {w:World} (h:CB ρ mem next w) (floor:Nat) {b:Nat} {blk:CA} {A:DW} (hm:Yi mem b=some blk) (hA:blk.arr=some A) (o:Option CA):Ev ρ ρ floor mem next (Wm mem b o) next w w where
 ext:=B9.le_refl _
 new _ _:=rfl
 nxt:=Aj _
 unborn k _ e cs ty hk:=by
  grind [Zw]
 frame _ _ hk _:=hk
 fresh k m hk e:=by have:=h.dom k m e;omega
 size:=Aj _
 os:=rfl
 tape:=rfl
 output:=rfl
 still _ _:=rfl
theorem y3w {cx:CL} {st st':St} {w:World} (h:CB ρ st.mem st.next w) {ts:Array TypeId} {type:TypeId} {us:Array Value} {b sz off len:Nat} {d x:B5} {xs:zx} {v:B5} (ha:Iu P cx st ts.toList b sz off len x=some (v,st')) (hob:st'.ob=true) (hx:Ux (Zn ρ) (d::x::xs) us.toList)
  (hd: ∀u,Zn ρ d u->(∃l c,ρ b=some l/\len<=c/\u=.slice (some ⟨l.blk,l.base+off*sz,none⟩) len c)\/(len=0/\ ∃p c,u=.slice p 0 c)):
  ∃ρ' u w',(Builtin.copy_ ts type us).run P w=.ok u w'/\D2 ρ cx.floor st st' v w ρ' u w':=by
 obtain ⟨ts⟩:=ts;obtain ⟨us⟩:=us;simp only at ha hx;unfold Iu at ha;split at ha
 .rename_i t _;cases hx with
  | @cons _ ud _ _ hd0 hx=>
   cases hx with
   | @cons _ ux _ uxs hx _=>
    split at ha
    .rename_i e hu;split at ha
     .rename_i i blk hi hm;split at ha
      .rename_i A m g o hA hcs;obtain ⟨eY,ha⟩:=Gi ha;simp only [Ad] at eY;have hfl:=Al eY.1;have hsz:=Al eY.2;simp only [Ao,Ac] at ha;obtain ⟨st1,ho,rfl,rfl⟩:=ha;obtain ⟨_,m2,n2,o4⟩:=Rp ho;obtain ⟨hb,_⟩:=o4 hob;simp only [Ad,An] at hb;obtain ⟨k1,k2,k3,k4⟩:=hb;obtain rfl:=Ai k1;have k2:=Ai k2;have m2:st1.mem=Wm st.mem b (some ⟨rows A.n (Jq A.get off (Nat.min m len) g),blk.ty,some ⟨A.sz,A.n,Jq A.get off (Nat.min m len) g⟩⟩):=m2;have n2:st1.next=st.next:=n2
       obtain ⟨hg,eU⟩:=x3x (P:=P) h hsz hcs k4 hx;have hmin:Nat.min m len<=m:=Nat.min_le_left _ _;have hmin2:Nat.min m len<=len:=Nat.min_le_right _ _;obtain ⟨eC,vs,hvs,hfc⟩:=eU (Nat.min m len) hmin;have fZ:(Builtin.firstCells i.size (Nat.min m len) ux).run P w=.ok vs w:=hfc w.drawn;have hgl: ∀k,k<Nat.min m len->(g k).length =i.size:=fun k hk=>(hg k (by omega)).1;have hrl:=Yk (Nat.min m len) hgl;have eS:=Zn.cells_oneCell hvs (Rt _ fun k hk=>(hg k (by omega)).2);have hbn:b<st.next:=by
        rcases A7 b st.next with q | q
        .exact q
        .rw [h.bd b q] at hm;cases hm
       have nothing:Nat.min m len=0->CB ρ st1.mem st1.next w/\Ev ρ ρ cx.floor st.mem st.next st1.mem st1.next w w:=fun e0=>by
        rw [m2,n2,e0];have same: ∀k,Jq A.get off 0 g k=A.get k:=fun k=>by
         unfold Jq;cases e:(Nat.ble off k&&Nat.ble (k+1) (off+0)) with
         | true=>simp only [Ad] at e;have e1:=Al e.1;have e2:=Al e.2;omega
         | false=>rfl
        have same:Jq A.get off 0 g=A.get:=funext same;rw [same];refine ⟨?_,Ev.put h cx.floor hm hA _⟩;refine h.reblk hm fun l hρ hbk=> ?_;have hbk:=hbk.rows hA;obtain ⟨fI,fY,eP⟩:=hbk.arr A hA;refine .plain ⟨by have:=hbk.typ;grind,by rw [hbk.n,fI],hbk.tot,fun B hB=> ?_,?_⟩
        .obtain rfl:=Ag hB;exact ⟨rfl,fY,eP⟩
        .have:=hbk.cells
         grind
       rcases hd ud hd0 with ⟨l,c,hρ,hlc,rfl⟩ | ⟨rfl,p,c,rfl⟩
       .have hb0:=(h.blk b l blk hρ hm).rows hA;have hno:=hb0.noObj;obtain ⟨fI,fY,eP⟩:=hb0.arr A hA;rw [k2] at eP;have hlr:=Yk A.n eP;have hfitN:off+Nat.min m len<=A.n:=(by omega);obtain ⟨c1,c2⟩:=v3j eP hgl hfitN;have hm3:(off+Nat.min m len)*i.size<=A.n*i.size:=AD _ hfitN;rw [AV] at hm3;obtain ⟨cur,el,hw,hcsz,eB⟩:=h.write hρ hm (off:=off*i.size) (cs:=rows (Nat.min m len) g) (vs:=vs.toList) hno (by simpa using hvs.1.symm) (by grind) (fun j h1 h2=>by simpa using hvs.2 j h1 (by grind));have gB:=hb0.splice (off:=off*i.size) (cs:=rows (Nat.min m len) g) (vs:=vs.toList) (by simpa using hvs.1.symm) (by grind) (fun j h1 h2=>by simpa using hvs.2 j h1 (by grind)) blk.ty none;have hst:=run_storeCells_at P l.blk (l.base+off*i.size) el vs.toList 0 cur w hw (by grind) eS;rw [Bn] at hst;rw [hrl,fI,<-c2] at eB gB;refine ⟨ρ,.int .i64 (Nat.min m len:Nat),w.setRow l.blk (cur.toList.take (l.base+off*i.size)++vs.toList++cur.toList.drop (l.base+off*i.size+vs.toList.length)).toArray,?_,.int _ _,?_,?_⟩
        .have hl2:=eC w;simp [Builtin.copy_,run_underlying hu,eC,Zh hi,fZ,goInt,hst,-Array.length_toList,-List.append_assoc]
        .rw [m2,n2];have:=eB.setArr ⟨A.sz,A.n,.flat (Jq A.get off (Nat.min m len) g)⟩ gB rfl fY (by rw [k2];exact c1);exact this
        grind [Ev.ofWrite]
       .have e0:Nat.min m 0=0:=Nat.min_zero m;obtain ⟨n1,n3⟩:=nothing e0;refine ⟨ρ,.int .i64 (Nat.min m 0:Nat),w,?_,.int _ _,n1,n3⟩;rw [e0] at fZ hvs;have hv0:vs= #[]:=by
         have:vs.size=0:=by rw [<-hvs.1];simp [rows]
         grind
        subst hv0;cases p with
        | none=>simp [Builtin.copy_,run_underlying hu,eC,Zh hi,fZ,goInt]
        | some a=>simp [Builtin.copy_,run_underlying hu,eC,Zh hi,fZ,goInt,storeCells]
      .cases ha
     .cases ha
    .cases ha
 .cases ha
theorem x7y {st st':St} {w:World} (h:CB ρ st.mem st.next w) (floor:Nat) {ts:Array TypeId} {type:TypeId} {xs:zx} {us:Array Value} {v:B5} (ha:MP P floor st ts.toList xs=some (v,st')) (hx:Ux (Zn ρ) xs us.toList):
  ∃ρ' u w',(Builtin.clear_ ts type us).run P w=.ok u w'/\D2 ρ floor st st' v w ρ' u w'/\st'.env=st.env/\st'.ob=st.ob:=by
 obtain ⟨ts⟩:=ts;obtain ⟨us⟩:=us;simp only at ha hx;unfold MP at ha;have unit:Zn ρ (.tup []) (.tuple #[]):=.tup [] #[] rfl fun i h1 _=>by simp at h1
 split at ha
 .rename_i t _ d _;cases hx with
  | @cons _ ud _ _ hd _=>
   split at ha
   .rename_i e hu;split at ha
    .rename_i i zero hi hz;obtain ⟨i2,z,hi2,_,hzr,hzv⟩:=Ws (ρ:=ρ) hz;split at ha
     .cases hd;simp only [Ae,Ac] at ha;obtain ⟨rfl,rfl⟩:=ha;exact ⟨ρ,.tuple #[],w,by simp [Builtin.clear_,run_underlying hu],⟨unit,h,Ev.refl _ _ _ _ _ h.dom⟩,rfl,rfl⟩
     .rename_i b off len cap;cases hd with
      | sl _ _ _ _ l c hρ eJ hlc=>
       rcases (by cases hl0:Nat.beq len 0 with
         | true=>rw [hl0] at ha;exact .inl ⟨rfl,ha⟩
         | false=>rw [hl0] at ha;exact .inr ⟨rfl,ha⟩:(Nat.beq len 0=true/\_)\/(Nat.beq len 0=false/\_)) with ⟨hl0,ha⟩ | ⟨hl0,ha⟩
       .have hl0:=Ai hl0;subst hl0;simp only [Af,Ae,Ac] at ha;obtain ⟨rfl,rfl⟩:=ha;exact ⟨ρ,.tuple #[],w,by simp [Builtin.clear_,run_underlying hu],⟨unit,h,Ev.refl _ _ _ _ _ h.dom⟩,rfl,rfl⟩
       .obtain ⟨hc,ha⟩:=Gi ha;simp only [Ad] at hc;obtain ⟨⟨hzl,hzs⟩,hfl⟩:=hc;have hzl:=Ai hzl;have hfl:=Al hfl;split at ha
        .rename_i blk hm;obtain ⟨eM,ha⟩:=Gi ha;simp only [Ad,Bc] at eM;obtain ⟨hno,eM⟩:=eM;have eM:=Al eM;simp only [Ae,Ac] at ha;obtain ⟨rfl,rfl⟩:=ha;have hrl:(Cp len zero).length =len*i.size:=(by rw [RT,hzl]);have fJ:Ua ρ (Cp len zero) (Builtin.zeroCells z.cells len):=QG hzr len (len*z.cells.size) (by rw [hzr.1]);have eS: ∀v∈(Builtin.zeroCells z.cells len).toList,v.oneCell'=true:=Zn.cells_oneCell fJ (by
          grind [Cp])
         obtain ⟨cur,el,hw,hcsz,eB⟩:=h.write hρ hm (off:=off) (cs:=Cp len zero) (vs:=(Builtin.zeroCells z.cells len).toList) hno (by simpa using fJ.1.symm) (by grind) (fun j h1 h2=>by simpa using fJ.2 j h1 (by grind));have hst:=run_storeCells_at P l.blk (l.base+off) el (Builtin.zeroCells z.cells len).toList 0 cur w hw (by grind) eS;rw [Bn] at hst;have hne:len≠0:=fun e=>by simp_all
         refine ⟨ρ,.tuple #[],w.setRow l.blk (cur.toList.take (l.base+off)++(Builtin.zeroCells z.cells len).toList ++cur.toList.drop (l.base+off+(Builtin.zeroCells z.cells len).toList.length)).toArray,?_,⟨unit,?_,Ev.ofWrite h hρ hfl _ _⟩,rfl,rfl⟩;all_goals simp_all [Builtin.clear_,run_underlying,St.withMem]
        .cases ha
     .cases ha
    .cases ha
   .cases ha
 .cases ha
end
section
variable {P:Program} {ρ:B9}
structure Xi (floor:Nat) (st st':St):Prop where
 nxt:st.next<=st'.next
 bd:(∀b,st.next<=b->Yi st.mem b=none)-> ∀b,st'.next<=b->Yi st'.mem b=none
 low:floor<=st.next-> ∀b,b<floor->Yi st'.mem b=Yi st.mem b
 ob:st'.ob=true->st.ob=true
theorem Xi.refl (floor:Nat) (st:St):Xi floor st st:=⟨Aj _,fun h=>h,fun _ _ _=>rfl,fun h=>h⟩
theorem Xi.trans {floor:Nat} {a b c:St} (h:Xi floor a b) (k:Xi floor b c):Xi floor a c:=
 ⟨AP h.nxt k.nxt,fun x=>k.bd (h.bd x),fun x d hd=>(k.low (AP x h.nxt) d hd).trans (h.low x d hd),fun x=>h.ob (k.ob x)⟩
theorem Xi.write {floor:Nat} (st:St) {b:Nat} {ab:CA} (o:Option CA) (hf:floor<=b) (hm:Yi st.mem b=some ab):Xi floor st (st.withMem (Wm st.mem b o)) where
 nxt:=Aj _
 bd h k hk:=by
  have hne:k≠b:=fun e=>by rw [e,] at hk;rw [h b hk] at hm;cases hm
  show Yi (Wm st.mem b o) k=none;rw [Zw _ _ hne];exact h k hk
 low _ k hk:=Zw _ _ (by omega)
 ob h:=h
theorem Xi.new {floor:Nat} (st:St) (cs:zx) (ty:TypeId):Xi floor st (Cg st cs ty) where
 nxt:=BY _
 bd h k hk:=by
  have hk':st.next+1<=k:=hk
  show Yi (Wm st.mem st.next _) k=none
  grind [Zw]
 low hf k hk:=Zw _ _ (by omega)
 ob h:=h
def E9 (R:CF):Prop:= ∀cx todo st st',R cx todo st=some st'->Xi cx.floor st st'
theorem Wa {cx:CL} {st st':St} {b:Bool} (h:st.owe cx b=some st'):st'.env=st.env/\st'.mem=st.mem/\st'.next=st.next/\(st'.ob=true->b=true/\st.ob=true):=by
 obtain ⟨env,mem,next,orc,ob⟩:=st
 grind [St.owe]
theorem RM {st st':St} {b e:Bool} (h:st.test b=(e,st')):st'.env=st.env/\st'.mem=st.mem/\st'.next=st.next/\(st'.ob=true->e=b/\st.ob=true):=by
 obtain ⟨env,mem,next,orc,ob⟩:=st;cases orc with
 | nil=>
  grind [St.test]
 | cons c r=>
  grind [St.test]
theorem Vp {cx:CL} {st st':St} {dst:Option Tmp} {v:B5} (h:st.put cx dst v=some st'):st'.mem=st.mem/\st'.next=st.next/\st'.ob=st.ob/\
  ((dst=none/\st'.env=st.env)\/ ∃d,dst=some d/\d<cx.n/\st'.env=T.set .undef st.env d v):=by
 obtain ⟨env,mem,next,orc,ob⟩:=st;cases dst with
 | none=>
  grind [St.put]
 | some d=>
  simp only [St.put] at h;cases hb:Nat.ble (d+1) cx.n with
  | false=>grind
  | true=>rw [hb,Af] at h;obtain rfl:=Ag h;exact ⟨rfl,rfl,rfl,.inr ⟨d,rfl,Al hb,rfl⟩⟩
theorem Xi.same {floor:Nat} {st st':St} (hm:st'.mem=st.mem) (hn:st'.next=st.next) (ho:st'.ob=true->st.ob=true):Xi floor st st':=
 ⟨by grind,fun h b hb=>by grind,fun _ b _=>by rw [hm],ho⟩
theorem Ze {α:Type} {c:Bool} {x:Option α} {y:α} (h:(bif c then x else none)=some y):c=true/\x=some y:=by grind
theorem Ui {α:Type} {c:Bool} {x z:Option α} {y:α} (h:(bif c then x else z)=some y):(c=true/\x=some y)\/(c=false/\z=some y):=by grind
theorem v1a {floor:Nat} {st st':St} {t:TypeId} {x v:B5} (h:MR P floor st t x v=some st'):Xi floor st st'/\st'.env=st.env:=by
 unfold MR at h;split at h
 .obtain ⟨hc,h⟩:=Ze h;simp only [Ad] at hc;split at h
  .rename_i blk hm;obtain ⟨_,h⟩:=Ze h;obtain rfl:=Ag h;exact ⟨Xi.write st _ (Al hc.1.1.1) hm,rfl⟩
  .cases h
 .cases h
theorem w3s {cx:CL} {st st':St} {t:TypeId} {x v:B5} (h:Lj P cx st t x v=some st'):Xi cx.floor st st'/\st'.env=st.env:=by
 unfold Lj at h;split at h
 .obtain ⟨hc,h⟩:=Ze h;simp only [Ad] at hc;split at h
  .rename_i blk hm;split at h
   .split at h
    .rename_i rw1 st1 fT;obtain ⟨s1,s2,s3,s4⟩:=YZ fT;obtain ⟨o1,o2,o3,o4⟩:=Wa h;have a1:Xi cx.floor st st1:=Xi.same s2 s3 fun x=>(s4 x).2;exact ⟨(a1.trans (Xi.write st1 _ (Al hc.1.1.1.1) (by rw [s2];exact hm))).trans (Xi.same o2 o3 fun x=>(o4 x).2),o1.trans s1⟩
    .cases h
   .cases h
  .cases h
 .cases h
theorem y9g {st st':St} {t:TypeId} {len:Nat} {ps:List (Nat×B5)} {v:B5} {un:Bool} (floor:Nat) (h:Ki P un st t len ps=some (v,st')):Xi floor st st'/\st'.env=st.env:=by
 unfold Ki at h;split at h
 .split at h
  .obtain ⟨_,h⟩:=Ze h;split at h
   .simp only [Ae,Ac] at h;obtain ⟨_,rfl⟩:=h;exact ⟨Xi.new st _ _,rfl⟩
   .cases h
  .cases h
 .cases h
theorem z8a {st st':St} {t:TypeId} {x y v:B5} (floor:Nat) (h:Jm P st t x y=some (v,st')):Xi floor st st'/\st'.env=st.env:=by
 unfold Jm at h;split at h
 .split at h
  .obtain ⟨_,h⟩:=Ze h;simp only [Ae,Ac] at h;obtain ⟨_,rfl⟩:=h;exact ⟨Xi.new st _ _,rfl⟩
  .cases h
 .cases h
theorem w4b {floor:Nat} {st st':St} {ts:List TypeId} {xs:zx} {v:B5} (h:Fr P floor st ts xs=some (v,st')):Xi floor st st'/\st'.env=st.env:=by
 unfold Fr at h;split at h
 .split at h
  .split at h
   .split at h
    .obtain ⟨_,h⟩:=Ze h;split at h
     .rcases Ui h with ⟨_,h⟩ | ⟨_,h⟩
      .grind [Xi.refl]
      .obtain ⟨_,h⟩:=Ze h;simp only [Ae,Ac] at h;obtain ⟨_,rfl⟩:=h;exact ⟨Xi.new st _ _,rfl⟩
     .split at h
      .rename_i blk hm;split at h
       .obtain ⟨_,h⟩:=Ze h;split at h
        .rcases Ui h with ⟨_,h⟩ | ⟨_,h⟩
         .obtain ⟨hc,h⟩:=Ze h;simp only [Ad] at hc;simp only [Ae,Ac] at h;obtain ⟨_,rfl⟩:=h;exact ⟨Xi.write st _ (Al hc.1) hm,rfl⟩
         .simp only [Ae,Ac] at h;obtain ⟨_,rfl⟩:=h;exact ⟨Xi.new st _ _,rfl⟩
        .obtain ⟨hc,h⟩:=Ze h;simp only [Ad] at hc;have hf:=Al hc.2;rcases Ui h with ⟨_,h⟩ | ⟨_,h⟩
         .simp only [Ae,Ac] at h;obtain ⟨_,rfl⟩:=h;exact ⟨Xi.write st _ hf hm,rfl⟩
         .obtain ⟨_,h⟩:=Ze h;simp only [Ae,Ac] at h;obtain ⟨_,rfl⟩:=h;exact ⟨(Xi.write st none hf hm).trans (Xi.new _ _ _),rfl⟩
       .cases h
      .cases h
     .cases h
    .cases h
   .cases h
  .cases h
 .cases h
theorem Xi.put {floor:Nat} (st:St) (cs:Option CA) {st':St} (hm:st'.mem=Wm st.mem st.next cs) (hn:st'.next=st.next+1) (ho:st'.ob=true->st.ob=true):Xi floor st st' where
 nxt:=by grind
 bd h k hk:=by
  grind [Zw]
 low hf k hk:=by grind [Zw]
 ob:=ho
theorem y9a {cx:CL} {st st':St} {t:TypeId} {x y v:B5} (h:Kh P cx st t x y=some (v,st')):Xi cx.floor st st'/\st'.env=st.env:=by
 unfold Kh at h;split at h
 .split at h
  .obtain ⟨_,h⟩:=Ze h;simp only [Ao,Ac] at h;obtain ⟨_,h1,_,rfl⟩:=h;obtain ⟨o1,o2,o3,o4⟩:=Wa h1;exact ⟨Xi.put st _ o2 (o3.trans rfl) fun x=>(o4 x).2,o1⟩
  .cases h
 .cases h
theorem x8e {cx:CL} {st st':St} {ts:List TypeId} {xs:zx} {v:B5} (h:MG P cx st ts xs=some (v,st')):Xi cx.floor st st'/\st'.env=st.env:=by
 unfold MG at h;split at h
 .split at h
  .split at h
   .cases h
   .split at h
    .split at h
     .rename_i hm;split at h
      .obtain ⟨hc,h⟩:=Ze h;simp only [Ad] at hc;simp only [Ao,Ac] at h;obtain ⟨_,h1,_,rfl⟩:=h;obtain ⟨o1,o2,o3,o4⟩:=Wa h1;exact ⟨(Xi.write st none (Al hc.1.2) hm).trans (Xi.put (st.withMem _) _ o2 (o3.trans rfl) fun x=>(o4 x).2),o1⟩
      .cases h
     .cases h
    .cases h
  .cases h
 .cases h
theorem u2t {floor:Nat} {st:St} {sz len:Nat} {x:B5} {b:Option Nat} {get:Nat->zx} {o:Bool} (ht:Pn st.mem sz x=some (b,len,get,o)) (hf:v6g floor b=true):Xi floor st (st.withMem (Mf st.mem b)):=by
 cases b with
 | none=>exact Xi.refl _ _
 | some b=>
  have hm: ∃ab,Yi st.mem b=some ab:=by
   unfold Pn at ht
   grind
  obtain ⟨ab,hm⟩:=hm;exact Xi.write st none (Al hf) hm
theorem x8d {cx:CL} {st st':St} {ts:List TypeId} {xs:zx} {v:B5} (h:HF P cx st ts xs=some (v,st')):Xi cx.floor st st'/\st'.env=st.env:=by
 unfold HF at h;split at h
 .split at h
  .split at h
   .split at h
    .rename_i ht _;obtain ⟨hc,h⟩:=Ze h;simp only [Ad] at hc;simp only [Ao,Ac] at h;obtain ⟨_,h1,_,rfl⟩:=h;obtain ⟨o1,o2,o3,o4⟩:=Wa h1;exact ⟨(u2t ht hc.2).trans (Xi.put (st.withMem _) _ o2 (o3.trans rfl) fun x=>(o4 x).2),o1⟩
    .cases h
   .cases h
  .cases h
 .cases h
theorem x8f {cx:CL} {st st':St} {ts:List TypeId} {xs:zx} {v:B5} (h:Ii P cx st ts xs=some (v,st')):Xi cx.floor st st'/\st'.env=st.env:=by
 unfold Ii at h;rcases Ui h with ⟨_,h⟩ | ⟨_,h⟩
 .cases h
 rcases Ui h with ⟨_,h⟩ | ⟨_,h⟩;all_goals grind [x8d,x8e,w4b]
theorem v7z {floor:Nat} {st st':St} {ts:List TypeId} {xs:zx} {v:B5} (h:M8 P floor st ts xs=some (v,st')):Xi floor st st'/\st'.env=st.env:=by
 unfold M8 at h;split at h
 .split at h
  .split at h
   .split at h
    .obtain ⟨_,h⟩:=Ze h;split at h
     .grind [Xi.refl]
     .obtain ⟨_,h⟩:=Ze h
      grind [Xi.refl]
     .dsimp only at h;split at h
      .rename_i blk hm;obtain ⟨hc,h⟩:=Ze h;simp only [Ad] at hc;simp only [Ae,Ac] at h;obtain ⟨_,rfl⟩:=h;exact ⟨Xi.write st _ (Al hc.2.1) hm,rfl⟩
      .cases h
     .cases h
    .cases h
   .cases h
  .cases h
 .cases h
theorem v1f {floor:Nat} {st st':St} {ts:List TypeId} {xs:zx} {v:B5} (h:MP P floor st ts xs=some (v,st')):Xi floor st st'/\st'.env=st.env:=by
 unfold MP at h;split at h
 .split at h
  .split at h
   .split at h
    .grind [Xi.refl]
    .rcases Ui h with ⟨_,h⟩ | ⟨_,h⟩
     .grind [Xi.refl]
     .obtain ⟨hc,h⟩:=Ze h;simp only [Ad] at hc;split at h
      .rename_i blk hm;obtain ⟨_,h⟩:=Ze h;simp only [Ae,Ac] at h;obtain ⟨_,rfl⟩:=h;exact ⟨Xi.write st _ (Al hc.2) hm,rfl⟩
      .cases h
    .cases h
   .cases h
  .cases h
 .cases h
theorem x7z {S:B7} {R:CF} (hR:E9 R) {lift:Bool} {f:FuncId} {args:zx} {cx:CL} {st st':St} {v:B5} (h:Q8 P S R lift f args cx st=some (v,st')):
  (Xi cx.floor st st'/\(lift=true-> ∀b,b<st.next->IK S f args≠some b->Yi st'.mem b=Yi st.mem b))/\st'.env=st.env:=by
 unfold Q8 at h;split at h
 .rcases Ui h with ⟨_,h⟩ | ⟨_,h⟩
  .split at h
   .obtain ⟨_,h⟩:=Ze h;simp only [Ao,Ac] at h
    grind [Wa,Xi.same]
   .cases h
  .split at h;split at h
   .obtain ⟨_,h⟩:=Ze h;simp only [Ao,Ac] at h
    grind [Wa,Xi.same]
   .cases h
 .split at h
  .rename_i v0 b blk o _;split at h
   .rename_i ab hm;obtain ⟨hc,h⟩:=Ze h;simp only [Ad,Bc] at hc;simp only [Ao,Ac] at h;obtain ⟨st1,h1,_,rfl⟩:=h;obtain ⟨e1,e2,e3,e4⟩:=Wa h1;exact ⟨⟨(Xi.write st (some blk) (Al hc.2) hm).trans (Xi.same e2 e3 fun x=>(e4 x).2),fun hl=>by grind⟩,e1⟩
   .cases h
  .cases h
 .rename_i ty0 F hF;split at h
  .rename_i b sz n sz' r;split at h
   .rename_i cells ty A hm;obtain ⟨hc,h⟩:=Ze h;simp only [Ad] at hc;split at h
    .rename_i n' g o _;simp only [Ao,Ac] at h;obtain ⟨st1,h1,_,rfl⟩:=h;obtain ⟨env,mem,next,orc,ob⟩:=st;simp only at h1 hm ⊢;obtain ⟨e1,e2,e3,e4⟩:=Wa h1;simp only at e1 e2 e3 e4;have hle:=Al hc.2.2.1;refine ⟨⟨⟨?_,fun hb k hk=> ?_,fun hf k hk=> ?_,fun x=>(e4 x).2⟩,fun _ k hk hn=> ?_⟩,e1⟩;all_goals grind [Zw,IK]
    .cases h
   .cases h
  .cases h
 .split at h
  .split at h
   .split at h
    .rename_i st2 hr;split at h
     .simp only [Ae,Ac] at h;obtain ⟨_,rfl⟩:=h;have q:=hR _ _ _ _ hr;refine ⟨?_,rfl⟩;cases lift with
      | false=>exact ⟨⟨q.nxt,q.bd,q.low,q.ob⟩,fun x=>by cases x⟩
      | true=>refine ⟨⟨q.nxt,q.bd,fun hf b hb=>q.low (Aj _) b (A1 hb hf),q.ob⟩,fun _ b hb _=>q.low (Aj _) b hb⟩
     .cases h
    .cases h
   .cases h
  .cases h
theorem v1c {cx:CL} {st st':St} {ts:List TypeId} {b sz off len:Nat} {x v:B5} (h:Iu P cx st ts b sz off len x=some (v,st')):Xi cx.floor st st'/\st'.env=st.env:=by
 unfold Iu at h;split at h
 .split at h
  .split at h
   .rename_i hm;split at h
    .obtain ⟨hc,h⟩:=Ze h;simp only [Ad] at hc;simp only [Ao,Ac] at h;obtain ⟨_,h1,_,rfl⟩:=h;obtain ⟨o1,o2,o3,o4⟩:=Wa h1;exact ⟨(Xi.write st _ (Al hc.1) hm).trans (Xi.same o2 o3 fun x=>(o4 x).2),o1⟩
    .cases h
   .cases h
  .cases h
 .cases h
theorem v1d {cx:CL} {st st':St} {ts:List TypeId} {xs:zx} {v:B5} (h:QI P cx st ts xs=some (v,st')):Xi cx.floor st st'/\st'.env=st.env:=by
 unfold QI at h
 grind [v1c,v7z]
theorem y9d {S:B7} {R:CF} (hR:E9 R) {lift:Bool} {op:Op} {cx:CL} {st st':St} {v:B5} (h:Vb P S R lift op cx st=some (v,st')):Xi cx.floor st st'/\st'.env=st.env:=by
 unfold Vb at h;split at h
 .split at h
  .rename_i hl;obtain ⟨l1,l2,l3,l4⟩:=U2 hl;simp only [Ao,Ac] at h
   grind [Wa,Xi.same]
  .cases h
 .simp only [Ao,Ac] at h;obtain ⟨_,_,_,rfl⟩:=h;exact ⟨Xi.new st _ _,rfl⟩
 .obtain ⟨_,h⟩:=Ze h;simp only [Ae,Ac] at h;obtain ⟨_,rfl⟩:=h;exact ⟨Xi.new st _ _,rfl⟩
 .exact y9g _ h
 .split at h
  .simp only [Ao,Ac] at h
   grind [w3s]
  .simp only [Ao,Ac] at h
   grind [v1a]
 .rcases Ui h with ⟨_,h⟩ | ⟨_,h⟩
  .rcases Ui h with ⟨_,h⟩ | ⟨_,h⟩
   .have q:=z8a (st:=st.dropO) cx.floor h;exact ⟨⟨q.1.nxt,q.1.bd,q.1.low,q.1.ob⟩,q.2⟩
   .have q:=y9a (st:=st.dropO) h;exact ⟨⟨q.1.nxt,q.1.bd,q.1.low,q.1.ob⟩,q.2⟩
  .exact z8a _ h
 all_goals grind [x8f,v1d,v1f,x7z]
def D7 (x:Nat) (st st':St):Prop:=Yi st'.mem x=Yi st.mem x
theorem Ks {x b:Nat} (st:St) (o:Option CA) (hn:b≠x):D7 x st (st.withMem (Wm st.mem b o)):=Zw _ _ fun e=>hn e.symm
theorem Pm {x:Nat} (st:St) (cs:zx) (ty:TypeId) (hx:x<st.next):D7 x st (Cg st cs ty):=Zw _ _ (Bj hx)
theorem w3r {x:Nat} {floor:Nat} {st st':St} {t:TypeId} {a v:B5} (h:MR P floor st t a v=some st') (hn: ∀off,a≠ .ptr x off):D7 x st st':=by
 unfold MR at h;split at h
 .rename_i b off _ _;obtain ⟨_,h⟩:=Ze h;split at h
  .obtain ⟨_,h⟩:=Ze h
   grind [Ks]
  .cases h
 .cases h
theorem x7t {x:Nat} {cx:CL} {st st':St} {t:TypeId} {a v:B5} (h:Lj P cx st t a v=some st') (hn: ∀sz r fo,a≠ .epa x sz r fo):D7 x st st':=by
 unfold Lj at h;split at h
 .rename_i b sz r fo _ _;obtain ⟨_,h⟩:=Ze h;split at h
  .split at h
   .split at h
    .rename_i rw1 st1 fT;obtain ⟨_,s2,_,_⟩:=YZ fT;obtain ⟨_,o2,_,_⟩:=Wa h;unfold D7;rw [o2,<-s2];exact Ks st1 _ fun e=>hn sz r fo (by rw [e])
    .cases h
   .cases h
  .cases h
 .cases h
theorem y4m {x:Nat} {st st':St} {t:TypeId} {len:Nat} {ps:List (Nat×B5)} {v:B5} {un:Bool} (hx:x<st.next) (h:Ki P un st t len ps=some (v,st')):D7 x st st':=by
 unfold Ki at h;split at h
 .split at h
  .obtain ⟨_,h⟩:=Ze h
   grind [Pm]
  .cases h
 .cases h
theorem z6q {x:Nat} {st st':St} {t:TypeId} {l c v:B5} (hx:x<st.next) (h:Jm P st t l c=some (v,st')):D7 x st st':=by
 unfold Jm at h;split at h
 .split at h
  .obtain ⟨_,h⟩:=Ze h
   grind [Pm]
  .cases h
 .cases h
theorem x8c {x floor:Nat} {st st':St} {ts:List TypeId} {xs:zx} {v:B5} (hx:x<st.next) (h:Fr P floor st ts xs=some (v,st')) (hn: ∀off len cap r,xs≠ .sl x off len cap::r):D7 x st st':=by
 unfold Fr at h;split at h
 .split at h
  .split at h
   .split at h
    .obtain ⟨_,h⟩:=Ze h;split at h
     .rcases Ui h with ⟨_,h⟩ | ⟨_,h⟩
      .simp only [Ae,Ac] at h;obtain ⟨_,rfl⟩:=h;rfl
      .obtain ⟨_,h⟩:=Ze h
       grind [Pm]
     .have hb:=fun e=>hn _ _ _ _ (Au (fun b=>B5.sl b _ _ _::_) e);split at h
      .rename_i blk hm;split at h
       .obtain ⟨_,h⟩:=Ze h;split at h
        .rcases Ui h with ⟨_,h⟩ | ⟨_,h⟩
         .obtain ⟨hc,h⟩:=Ze h
          grind [Ks]
         grind [Pm]
        .obtain ⟨hc,h⟩:=Ze h;rcases Ui h with ⟨_,h⟩ | ⟨_,h⟩
         .grind [Ks]
         .obtain ⟨_,h⟩:=Ze h;simp only [Ae,Ac] at h;obtain ⟨_,rfl⟩:=h;exact (Pm (st.withMem (Wm st.mem _ none)) _ _ hx).trans (Ks st none hb)
       .cases h
      .cases h
     .cases h
    .cases h
   .cases h
  .cases h
 .cases h
theorem y4j {x:Nat} {cx:CL} {st st':St} {t:TypeId} {l c v:B5} (hx:x<st.next) (h:Kh P cx st t l c=some (v,st')):D7 x st st':=by
 unfold Kh at h;split at h
 .split at h
  .obtain ⟨_,h⟩:=Ze h;simp only [Ao,Ac] at h;obtain ⟨_,h1,_,rfl⟩:=h;obtain ⟨_,o2,_,_⟩:=Wa h1
   grind [D7,Zw]
  .cases h
 .cases h
theorem x4l {x:Nat} {cx:CL} {st st':St} {ts:List TypeId} {xs:zx} {v:B5} (hx:x<st.next) (h:MG P cx st ts xs=some (v,st')) (hn: ∀sz off len cap r,xs≠ .sla x sz off len cap::r):D7 x st st':=by
 unfold MG at h;split at h
 .have hb:=fun e=>hn _ _ _ _ _ (Au (fun b=>B5.sla b _ _ _ _::_) e);split at h
  .split at h
   .cases h
   .split at h
    .split at h
     .split at h
      .obtain ⟨hc,h⟩:=Ze h;simp only [Ao,Ac] at h;obtain ⟨_,h1,_,rfl⟩:=h;obtain ⟨_,o2,_,_⟩:=Wa h1
       grind [D7,Zw]
      .cases h
     .cases h
    .cases h
  .cases h
 .cases h
theorem y9q {m:CE} {sz len b:Nat} {x:B5} {get:Nat->zx} {o:Bool} (ht:Pn m sz x=some (some b,len,get,o)):(∃off len cap,x=.sl b off len cap)\/ ∃sz off len cap,x=.sla b sz off len cap:=by
 unfold Pn at ht
 grind
theorem x4k {x:Nat} {cx:CL} {st st':St} {ts:List TypeId} {xs:zx} {v:B5} (hx:x<st.next) (h:HF P cx st ts xs=some (v,st')) (hn: ∀off len cap r,xs≠ .sl x off len cap::r) (hn2: ∀sz off len cap r,xs≠ .sla x sz off len cap::r):D7 x st st':=by
 unfold HF at h;split at h
 .split at h
  .split at h
   .split at h
    .rename_i b len get o1 n g o2 ht _;obtain ⟨hc,h⟩:=Ze h;simp only [Ao,Ac] at h;obtain ⟨_,h1,_,rfl⟩:=h;obtain ⟨_,o2,_,_⟩:=Wa h1;unfold D7;rw [o2];show Yi (Wm (Mf st.mem b) st.next _) x=_;rw [Zw _ _ (Bj hx)];cases b with
     | none=>rfl
     | some b=>
      refine Zw _ _ fun e=> ?_
      grind [y9q]
    .cases h
   .cases h
  .cases h
 .cases h
theorem x4m {x:Nat} {cx:CL} {st st':St} {ts:List TypeId} {xs:zx} {v:B5} (hx:x<st.next) (h:Ii P cx st ts xs=some (v,st')) (hn: ∀off len cap r,xs≠ .sl x off len cap::r) (hn2: ∀sz off len cap r,xs≠ .sla x sz off len cap::r):D7 x st st':=by
 unfold Ii at h;rcases Ui h with ⟨_,h⟩ | ⟨_,h⟩
 .cases h
 rcases Ui h with ⟨_,h⟩ | ⟨_,h⟩;all_goals grind [x4k,x4l,x8c]
theorem v1b {x floor:Nat} {st st':St} {ts:List TypeId} {xs:zx} {v:B5} (h:M8 P floor st ts xs=some (v,st')) (hn: ∀off len cap r,xs≠ .sl x off len cap::r):D7 x st st':=by
 unfold M8 at h;split at h
 .split at h
  .split at h
   .split at h
    .obtain ⟨_,h⟩:=Ze h;split at h
     .simp only [Ae,Ac] at h;obtain ⟨_,rfl⟩:=h;rfl
     .obtain ⟨_,h⟩:=Ze h;simp only [Ae,Ac] at h;obtain ⟨_,rfl⟩:=h;rfl
     .have hb:=fun e=>hn _ _ _ _ (Au (fun b=>B5.sl b _ _ _::_) e);dsimp only at h;split at h
      .obtain ⟨hc,h⟩:=Ze h
       grind [Ks]
      .cases h
     .cases h
    .cases h
   .cases h
  .cases h
 .cases h
theorem w3w {x:Nat} {cx:CL} {st st':St} {ts:List TypeId} {b sz off len:Nat} {y v:B5} (h:Iu P cx st ts b sz off len y=some (v,st')) (hn:b≠x):D7 x st st':=by
 unfold Iu at h;split at h
 .split at h
  .split at h
   .split at h
    .obtain ⟨_,h⟩:=Ze h;simp only [Ao,Ac] at h;obtain ⟨_,h1,_,rfl⟩:=h;obtain ⟨_,o2,_,_⟩:=Wa h1;show Yi _ x=_;rw [o2];exact Ks st _ hn
    .cases h
   .cases h
  .cases h
 .cases h
theorem w3x {x:Nat} {cx:CL} {st st':St} {ts:List TypeId} {xs:zx} {v:B5} (h:QI P cx st ts xs=some (v,st')) (hn: ∀off len cap r,xs≠ .sl x off len cap::r) (hn2: ∀sz off len cap r,xs≠ .sla x sz off len cap::r) (hn3: ∀sz off len r,xs≠ .slv x sz off len::r):D7 x st st':=by
 unfold QI at h
 grind [w3w,v1b]
theorem w3z {x floor:Nat} {st st':St} {ts:List TypeId} {xs:zx} {v:B5} (h:MP P floor st ts xs=some (v,st')) (hn: ∀off len cap r,xs≠ .sl x off len cap::r):D7 x st st':=by
 unfold MP at h;split at h
 .split at h
  .split at h
   .split at h
    .simp only [Ae,Ac] at h;obtain ⟨_,rfl⟩:=h;rfl
    .have hb:=fun e=>hn _ _ _ _ (Au (fun b=>B5.sl b _ _ _::_) e);rcases Ui h with ⟨_,h⟩ | ⟨_,h⟩
     .simp only [Ae,Ac] at h;obtain ⟨_,rfl⟩:=h;rfl
     .obtain ⟨hc,h⟩:=Ze h;split at h
      .obtain ⟨_,h⟩:=Ze h
       grind [Ks]
      .cases h
    .cases h
   .cases h
  .cases h
 .cases h
theorem x7x {S:B7} {R:CF} {lift:Bool} {op:Op} {cx:CL} {st st':St} {v:B5} {x:Nat} (hk:Xc op=.chain) (hx:x<st.next) (hn:Dn op st.eval≠some x) (h:Vb P S R lift op cx st=some (v,st')):D7 x st st':=by
 cases op with
 | store t a y=>
  simp only [Vb] at h;split at h
  .rename_i b sz r fo hb;simp only [Ao,Ac] at h
   grind [x7t,Dn]
  .simp only [Ao,Ac] at h
   grind [w3r,Dn]
 | box t y=>
  unfold Vb at h;simp only at h;obtain ⟨_,h⟩:=Ze h
  grind [Pm]
 | buildSlice t n ps=>exact y4m hx h
 | makeSlice t l c=>
  unfold Vb at h;simp only at h;rcases Ui h with ⟨_,h⟩ | ⟨_,h⟩
  .rcases Ui h with ⟨_,h⟩ | ⟨_,h⟩
   .exact (z6q (st:=st.dropO) hx h)
   .exact (y4j (st:=st.dropO) hx h)
  .exact z6q hx h
 | call c=>
  obtain ⟨callee,args,argTypes⟩:=c;cases callee with
  | builtin b=>
   cases b <;> first
    | (simp [Xc] at hk;done)
    | exact x4m hx h (fun off len cap r e=>hn (by simp only [Dn,e])) (fun sz off len cap r e=>hn (by simp only [Dn,e]))
    | exact w3x h (fun off len cap r e=>hn (by simp only [Dn,e])) (fun sz off len cap r e=>hn (by simp only [Dn,e])) (fun sz off len r e=>hn (by simp only [Dn,e]))
    | exact w3z h fun off len cap r e=>hn (by simp only [Dn,e])
  | value f=>simp [Xc] at hk
  | invoke r m=>simp [Xc] at hk
 | _=>simp [Xc] at hk
theorem Ky : ∀(d:Nat) (a:B5) (u:Value),pf d a=true->Zn ρ a u->Zn ρ.bare a u
 | 0,_,_,h,_=>by simp [pf] at h
 | d+1,a,u,h,hr=>by
  cases hr with
  | undef=>simp [pf] at h
  | bool=>exact .bool _
  | int=>exact .int _ _
  | str=>exact .str _
  | mapr=>simp [pf] at h
  | ifbt=>exact .ifbt
  | ifbf=>exact .ifbf _ _
  | agg cs vs hl hh=>simp only [pf,Ax] at h;exact .agg cs vs hl fun i h1 h2=>Ky d _ _ (h _ (AL h1)) (hh i h1 h2)
  | tup cs vs hl hh=>simp only [pf,Ax] at h;exact .tup cs vs hl fun i h1 h2=>Ky d _ _ (h _ (AL h1)) (hh i h1 h2)
  | ptr=>simp [pf] at h
  | nilp=>exact .nilp
  | sl=>simp [pf] at h
  | sla=>simp [pf] at h
  | slan=>simp [pf] at h
  | slv=>simp [pf] at h
  | slve=>simp [pf] at h
  | slvn=>simp [pf] at h
  | nnl=>simp [pf] at h
  | epa=>simp [pf] at h
  | nils=>exact .nils
  | fn f cs vs hl hh=>obtain rfl:cs=[]:=List.isEmpty_iff.1 h;exact .fn f [] vs hl fun i h1=>absurd h1 (AJ _)
  | nilf=>exact .nilf
  | fnb=>simp [pf] at h
  | yld=>simp [pf] at h
  | ifc=>simp [pf] at h
  | nili=>exact .nili
  | dat len get blk base sz cap val eJ hsz hv hh=>exact .dat len get blk base sz cap val eJ hsz hv hh
  | datn get=>exact .datn get
  | datz get a c=>exact .datz get a c
  | dptr cs blk base val hv hh=>exact .dptr cs blk base val hv hh
def Q6 (P:Program) (f:FuncId) (F:zx->Option (B5×Bool)):Prop:=
 ∀args v,F args=some (v,true)-> ∀(H:Do) (vals:Array Value) (w:World),Ux (Zn (DI H)) args vals.toList->(∀k o,H k=some o->w.heap[k]? =some o)->Glob H->
  Calls P f vals w fun e w'=> ∃H' u,(∀k o,H k=some o->H' k=some o)/\(∀k o,H' k=some o->w'.heap[k]? =some o)/\(∀k,k<w.heap.size->H' k=H k)/\e=.returned u/\Zn (DI H') v u/\RowKit.Below w.heap.size w w'
def Gm (P:Program) (f:FuncId) (F:zx->CE->Option (B5×Nat×CA×Bool)):Prop:=
 ∀args mem v b blk,F args mem=some (v,b,blk,true)->(Yi mem b).isSome =true-> ∀(ρ:B9) (next floor:Nat) (vals:Array Value) (w:World),floor<=b->Ux (Zn ρ) args vals.toList->CB ρ mem next w->
  Calls P f vals w fun e w'=> ∃u,e=.returned u/\Zn ρ v u/\CB ρ (Wm mem b (some blk)) next w'/\Ev ρ ρ floor mem next (Wm mem b (some blk)) next w w'
def JN (H:Do) (l:Option CT):B9:=⟨fun b=>if b=0 then l else none,H,fun _=>none⟩
def FL (ty:TypeId) (sz n:Nat) (get:Nat->zx):CE:=Wm .leaf 0 (some ⟨rows n get,ty,some ⟨sz,n,.flat get⟩⟩)
def Lh (P:Program) (f:FuncId) (ty:TypeId) (F:Nat->(Nat->zx)->zx->Option (Nat×(Nat->zx)×Bool)):Prop:=
 ∀ (sz n:Nat) (get:Nat->zx) (r:zx) (n':Nat) (g:Nat->zx),F n get r=some (n',g,true)->LG sz n get=true->LG sz n' g=true->1<=sz-> ∀(H:Do) (l:Option CT) (vals:Array Value) (w:World),
  Ux (Zn (JN H l)) (.sla 0 sz 0 n (.un sz)::r) vals.toList->CB (JN H l) (FL ty sz n get) 1 w->(∀k o,w.heap[k]? =some o->(∃l0,l=some l0/\l0.blk=k)\/H k=some o)->
  Calls P f vals w fun e w'=> ∃ρ' u m' nx b,e=.returned u/\Zn ρ' (.sla b sz 0 n' (.un sz)) u/\Yi m' b=some ⟨rows n' g,ty,some ⟨sz,n',.flat g⟩⟩/\CB ρ' m' nx w'/\
   (∀k o,H k=some o->ρ'.fz k=some o)/\w.heap.size<=w'.heap.size/\w'.os=w.os/\w'.tape=w.tape/\w'.output=w.output
def P7 (P:Program) (f:FuncId):OX->Prop
 | .val F=>Q6 P f F
 | .eff F=>Gm P f F
 | .gro ty F=>Lh P f ty F
def Zv (P:Program) (S:B7):Prop:=
 ∀f F,S f=some F->(∃fn,P.funcs[f]? =some fn/\fn.body.isSome=true)/\P7 P f F
def j6i (P:Program):Prop:=(P.funcs[Mm]?).isSome =true-> ∀(b:Nat) (p v:Value) (w:World) (l:zy),l.length<=9223372036854775807->w.heap[b]? =some (.cells #[p,v] DN (0,0))->
 ((v=.slice none 0 0/\l=[])\/ ∃g o c cur,v=.slice (some ⟨g,o,none⟩) l.length c/\l.length<=c/\w.heap[g]? =some (.cells cur PZ (0,0))/\(l≠ []->o+l.length<=cur.size)/\ ∀j x,l[j]? =some x->cur[o+j]? =some (.int .u8 x.toNat))->
 Calls P Mm #[.pointer (some ⟨b,0,none⟩)] w fun e w'=>e=.returned (.string ⟨l.toArray⟩)/\w.heap.size<=w'.heap.size/\
  (∀k o,w.heap[k]? =some o->(∀g o n c,v=.slice (some ⟨g,o,none⟩) n c->g≠k)->w'.heap[k]? =some o)/\w'.os=w.os/\w'.tape=w.tape/\w'.output=w.output
def EC (P:Program):Prop:=(∀(f:FuncId) (fn:Func),P.funcs[f]? =some fn->fn.body.isSome=true->(fn.name == "runtime.NumGoroutine")=false)/\j6i P
def GY (P:Program) (R:CF):Prop:=
 ∀ cx todo st st',cx.floor<=st.next->R cx todo st=some st'->st'.ob=true-> ∀(ρ:B9) (a:Act) (w:World) (b:Frame) (cs:List Frame),a.defers=[]->Vg ρ st.env cx.n a.tmps->CB ρ st.mem st.next w->
  ∃ρ' a' todo' w',Steps P (lone (b.at a todo) cs w) (lone {b.at a' todo' with mode:=.returning} cs w')/\a'.defers=[]/\Vg ρ' st'.env cx.n a'.tmps/\CB ρ' st'.mem st'.next w'/\
   Ev ρ ρ' cx.floor st.mem st.next st'.mem st'.next w w'
theorem ZV : ∀(args:zx) (i:Nat) (t:T B5) (k:Nat),T.get .undef (Ex args i t) k=if i<=k/\k<i+args.length then args.getD (k - i) .undef else T.get .undef t k
 | [],i,t,k=>by rw [Az (by grind)];rfl
 | a::r,i,t,k=>by
  simp only [Ex];rw [ZV r (i+1) _ k,T.get_set];by_cases h1:k=i
  .subst h1;rw [Az (by omega),AG rfl,AG (by simp)];simp
  .by_cases h2:i+1<=k/\k<i+1+r.length
   .rw [AG h2,AG (by simp;omega)];have:k - i=(k - (i+1))+1:=(by omega);rw [this];simp
   .rw [Az h2,Az h1,Az (by simp;omega)]
def SK (tmps:Array Value):ResultVar->Sem Value
 | .tmp t=>pure (tmps.getD t undef)
 | .cell a t=>do loadVar t (<-asAddr (tmps.getD a undef))
theorem w8t (fn:Func) (tmps:Array Value):results fn tmps=(do
  let vs<-fn.results.mapM (SK tmps)
  pure (if h:vs.size=1 then vs[0] else .tuple vs)):=by
 unfold results;have:(fun r:ResultVar=>(match r with | .tmp t=>pure (tmps.getD t undef) | .cell a t=>do loadVar t (<-asAddr (tmps.getD a undef)):Sem Value))=SK tmps:=by
  funext r
  cases r <;> rfl
 rw [<-this];rfl
theorem x4f {st:St} {w:World} {tmps:Array Value} {n:Nat} (eG:Vg ρ st.env n tmps) (eB:CB ρ st.mem st.next w) {r:ResultVar} {v:B5} (h:W0 P st r=some v):
  ∃u,Zn ρ v u/\(SK tmps r).run P w=.ok u w:=by
 have get: ∀t,Zn ρ (st.tmp t) (tmps.getD t undef):=fun t=>eG.get t;cases r with
 | tmp t=>simp only [W0,Ae] at h;subst h;exact ⟨_,get t,rfl⟩
 | cell a t=>
  simp only [W0] at h;obtain ⟨z,hz,hr⟩:=y9b eB h (get a);refine ⟨z,hz,?_⟩;have ha:=get a;unfold SK;simp only;generalize tmps.getD a undef=u at ha hr ⊢;unfold M9 at h;split at h
  .rename_i e;rw [e] at ha;cases ha
   grind [Instr.loadAt,Instr.sureAddr,asAddr]
  .rename_i e;rw [e] at ha;cases ha
   grind [Instr.loadAt,Instr.sureAddr,asAddr]
  .cases h
theorem z7z {st:St} {w:World} {tmps:Array Value} {n:Nat} (eG:Vg ρ st.env n tmps) (eB:CB ρ st.mem st.next w): ∀{rs:List ResultVar} {vs:zx},Qh P st rs=some vs->
  ∃us,Ux (Zn ρ) vs us/\(rs.mapM (SK tmps)).run P w=.ok us w
 | [],vs,h=>by simp only [Qh,Ae] at h;subst h;exact ⟨[],.nil,by simp⟩
 | r::rs,vs,h=>by
  unfold Qh at h;split at h
  .rename_i v vs' h1 h2;obtain rfl:=Ag h;obtain ⟨u,hu,hr⟩:=x4f eG eB h1;obtain ⟨us,hus,hrs⟩:=z7z eG eB h2;refine ⟨u::us,.cons hu hus,?_⟩;rw [List.mapM_cons,Sem.run_bind,hr];simp only [Result.andThen_ok,Sem.run_bind,hrs,Sem.run_pure]
  .cases h
theorem ZA {fn:Func} {st:St} {w:World} {tmps:Array Value} {n:Nat} (eG:Vg ρ st.env n tmps) (eB:CB ρ st.mem st.next w) {vs:zx} (h:Qh P st fn.results.toList=some vs):
  ∃u,Zn ρ (Kg vs) u/\(results fn tmps).run P w=.ok u w:=by
 obtain ⟨us,hus,hr⟩:=z7z eG eB h;refine ⟨if h:us.toArray.size=1 then us.toArray[0] else .tuple us.toArray,?_,?_⟩
 .cases hus with
  | nil=>exact .tup [] _ rfl fun i h1 _=>by simp at h1
  | cons h1 hs=>cases hs with
   | nil=>simpa [Kg] using h1
   | cons h2 hs=>have fC:=Ux.cons h1 (Ux.cons h2 hs);have hl:=fC.length;simp only [Kg];rw [dif_neg (by simp)];exact .tup _ _ (by grind) fun i h1 h2=>by simpa using fC.get i h1 (by grind)
 .rw [w8t,Sem.run_bind,Array.mapM_eq_mapM_toList,Sem.run_map,hr];rfl
theorem ZW {args:zx} {vals:Array Value} (h:Ux (Zn ρ) args vals.toList) (ntmps:Nat):
  Vg ρ (Ex args 0 .leaf) (Nat.max ntmps args.length) (vals++Array.replicate (ntmps - vals.size) undef):=by
 have hl:args.length=vals.size:=by simpa using h.length
 have hmax:Nat.max ntmps args.length=vals.size+(ntmps - vals.size):=by
  grind
 refine ⟨by grind,fun i=> ?_,fun i hi=> ?_⟩
 .rw [ZV];by_cases hi:i<args.length
  .rw [AG (by omega)];have h2:i<vals.toList.length:=by grind
   have:=h.get i hi h2;have e1:args.getD (i - 0) .undef =args[i]:=by simp [hi]
   have e2:(vals++Array.replicate (ntmps - vals.size) undef).getD i undef=vals.toList[i]:=by have h3:i<vals.size:=(by grind);simp [Array.getElem?_append,h3]
   grind
  .rw [Az (by omega)];exact .undef _
 .have hle:args.length<=Nat.max ntmps args.length:=Nat.le_max_right _ _;rw [ZV,Az (by omega)];rfl
theorem Pu {f:FuncId} {fn:Func} (hN:EC P) (hf:P.funcs[f]? =some fn) (hb:fn.body.isSome=true) (args:Array Value) (w:World):(callFunc f args).run P w=.ok (.enter f args) w:=by
 have h1: ¬fn.name= "runtime.NumGoroutine" :=by simpa using hN.1 f fn hf hb
 have h2: ¬fn.body=none:=by grind
 simp [callFunc,hf,h1,h2]
theorem x8p {mem:CE} {next:Nat} {w:World} (h:CB ρ mem next w) {a a':B5} {o:Bool} (hv:u8v P mem a=(a',o)) (ho:o=true) {u:Value} (hr:Zn ρ a u) (hp:pf 3 a'=true):Zn (DI fun k=>w.heap[k]?) a' u:=by
 subst ho;have hle:ρ.bare.le (DI fun k=>w.heap[k]?):=⟨fun _ _ e=>(by cases e),fun k o e=>h.old k o e,fun _ _ e=>(by cases e)⟩
 unfold u8v at hv;split at hv
 .rename_i b sz off len cap;split at hv
  .rename_i blk hm;split at hv
   .rename_i A hA;simp only [Ac,Ad,An] at hv;obtain ⟨rfl,h1,h2,h3⟩:=hv;obtain rfl:=Ai h1;have h3:= @Aw _ (Classical.propDecidable _) h3;cases hr with
    | slan=>exact .datn _
    | sla _ _ _ _ _ l c hρ eJ eC=>
     obtain ⟨fI,fY,eP⟩:=(h.blk b l blk hρ hm).arr A hA;obtain ⟨cur,el,hh,_⟩:=((h.blk b l blk hρ hm).rows hA).cells;refine .dat len _ l.blk (l.base+off*A.sz) A.sz c (fun i j=>(w.cell? ⟨l.blk,l.base+(off+i)*A.sz+j,none⟩).getD undef) eC (fun i hi=>eP _ (by omega)) (fun i j hi hj=> ?_) (fun i j hi hj=> ?_)
     .obtain ⟨v,e1,e2⟩:=(h.rowAt hρ hm hA (r:=off+i) (by omega)) j hj;simp only [e1,Option.getD_some];exact (Ky 6 _ _ (Ax.1 (h3 (off+i)) _ (AL hj)) e2).mono hle
     .obtain ⟨v,e1,e2⟩:=(h.rowAt hρ hm hA (r:=off+i) (by omega)) j (by grind);simp only [e1,Option.getD_some];refine ⟨cur,el,(0,0),hh,?_⟩
      grind [World.cell?]
   grind [pf]
  grind [pf]
 .rename_i b off len cap;split at hv
  .rename_i blk hm;split at hv
   .rename_i inf _;simp only [Ac,Ad,Bc] at hv;obtain ⟨rfl,h0,h1,h3⟩:=hv;have h1:=Al h1;generalize inf.size=sz at h1 hp ⊢;cases hr with
    | sl _ _ _ _ l c hρ eJ eC=>
     obtain ⟨cs,el,hh,_,hc⟩:=((h.blk b l blk hρ hm).at h0).cells;have hlt: ∀i,i<len->off+i*sz+sz<=blk.cells.length:=fun i hi=>by have:=AD sz (show i+1<=len by omega);rw [Nat.succ_mul] at this;omega
     have hl: ∀i,i<len->((blk.cells.drop (off+i*sz)).take sz).length =sz:=fun i hi=>by have:=hlt i hi;rw [Bf,Be];omega
     refine .dat len _ l.blk (l.base+off) sz c (fun i j=>(cs[l.base+(off+i*sz+j)]?).getD undef) eC hl (fun i j hi hj=> ?_) (fun i j hi hj=> ?_)
     .have h4:=hlt i hi;have hj':=hj;rw [hl i hi] at hj';obtain ⟨v,e1,e2⟩:=hc (off+i*sz+j) (by omega);simp only [e1,Option.getD_some];have e3:((blk.cells.drop (off+i*sz)).take sz)[j]=blk.cells[off+i*sz+j]'(by omega):=by rw [BH,List.getElem_drop]
      rw [e3];exact (Ky 6 _ _ (Ax.1 h3 _ (AL _)) e2).mono hle
     .have h4:=hlt i hi;obtain ⟨v,e1,e2⟩:=hc (off+i*sz+j) (by omega);simp only [e1,Option.getD_some];refine ⟨cs,el,(0,0),hh,?_⟩;rw [<-e1]
      congr 1
      omega
   grind [pf]
  grind [pf]
 .simp only [Ac] at hv;obtain ⟨rfl,_⟩:=hv;exact (Ky 3 _ _ hp hr).mono hle
theorem x8q {mem:CE} {next:Nat} {w:World} (h:CB ρ mem next w) {az:zx} {us:List Value} (hr:Ux (Zn ρ) az us): ∀{az':zx} {o:Bool},S0 P mem az=(az',o)->o=true->az'.all (pf 3)=true->Ux (Zn (DI fun k=>w.heap[k]?)) az' us:=by
 induction hr with
 | nil=>intro az' o hv _ _;simp only [S0,Ac] at hv;obtain ⟨rfl,_⟩:=hv;exact .nil
 | @cons a b l m h1 _ ih=>intro az' o hv ho hp;unfold S0 at hv;split at hv;rename_i a1 o1 as1 q1 e1 e2;simp only [Ac] at hv;obtain ⟨rfl,rfl⟩:=hv;simp only [Ad] at ho;simp only [BJ,Ad] at hp;exact .cons (x8p h e1 ho.1 h1 hp.1) (ih e2 ho.2 hp.2)
theorem w7p {σ:B9} {v:B5} {u:Value} (hs:scal v=true) (h:Zn σ v u):Zn ρ v u:=by
 cases h with
 | bool=>exact .bool _
 | int=>exact .int _ _
 | str=>exact .str _
 | ifbt=>exact .ifbt
 | ifbf=>exact .ifbf _ _
 | tup cs vs hl hh=>
  simp only [scal,Ax] at hs;refine .tup cs vs hl fun i h1 h2=> ?_;have k1:=hs _ (AL h1);have k2:=hh i h1 h2;generalize cs[i]=a at k1 k2;generalize vs[i]=b at k2;cases k2 with
  | undef=>exact .undef _
  | bool=>exact .bool _
  | int=>exact .int _ _
  | str=>exact .str _
  | ifbt=>exact .ifbt
  | ifbf=>exact .ifbf _ _
  | _=>simp at k1
 | _=>simp [scal] at hs
theorem u1q {sz n:Nat} {get:Nat->zx} (h:LG sz n get=true): ∀i,i<n->(get i).length =sz/\(get i).all pl=true:= @Aw _ (Classical.propDecidable _) h
theorem v3i {sz n:Nat} {get:Nat->zx} (h:LG sz n get=true): ∀v∈rows n get,pl v=true:=fun v hv=>by
 obtain ⟨i,hi,hv⟩:=BA.1 hv
 grind [u1q]
theorem Nx {v:B5} {u:Value} {ρ':B9} (h:pl v=true) (hr:Zn ρ v u):Zn ρ' v u:=by
 cases hr <;> first | exact .bool _ | exact .int _ _ | (cases h;done)
theorem Vv.pl {w:World} {ab:CA} {l:CT} (h:Vv ρ w ab l) (hp: ∀v∈ab.cells,pl v=true) (ρ':B9):Vv ρ' w ab l:=by
 cases h with
 | plain h=>
  obtain ⟨h0,h1,h2,h3,cs,el,h4,h5,h6⟩:=h;refine .plain ⟨h0,h1,h2,h3,cs,el,h4,h5,fun i hi=> ?_⟩
  grind [Nx]
 | obj o r ty h n z=>subst h;have:=hp _ (Bh ..);cases this
theorem v5z {f:FuncId} {F:Nat->(Nat->zx)->zx->Option (Nat×(Nat->zx)×Bool)} {ty:TypeId} (hF:Lh P f ty F) {floor next:Nat} {mem:CE} {b sz n:Nat} {r:zx} {cells:zx} {A:DW} (hm:Yi mem b=some ⟨cells,ty,some A⟩)
  (hA:A.sz=sz/\A.n=n) (hr:r.all (pf 3)=true) (hfl:floor<=b) (hsz:1<=sz) {n':Nat} {g:Nat->zx} (hv:F n A.get r=some (n',g,true)) (hp:LG sz n A.get=true) (hp':LG sz n' g=true)
  {vals:Array Value} (eD:Ux (Zn ρ) (.sla b sz 0 n (.un sz)::r) vals.toList) {w:World} (eB:CB ρ mem next w):
  Calls P f vals w fun e w'=> ∃ρ' u,e=.returned u/\Zn ρ' (.sla next sz 0 n' (.un sz)) u/\CB ρ' (Wm (Wm mem b none) next (some ⟨rows n' g,ty,some ⟨sz,n',.flat g⟩⟩)) (next+1) w'/\
   Ev ρ ρ' floor mem next (Wm (Wm mem b none) next (some ⟨rows n' g,ty,some ⟨sz,n',.flat g⟩⟩)) (next+1) w w':=by
 obtain ⟨rfl,rfl⟩:=hA;have hbn:b<next:=by
  rcases A7 b next with h | h
  .exact h
  .rw [eB.bd b h] at hm;cases hm
 let H:Do:=fun k=>if∃l,ρ b=some l/\l.blk=k then none else w.heap[k]?
 have hH: ∀k,(¬ ∃l,ρ b=some l/\l.blk=k)->H k=w.heap[k]? :=fun k hk=>Az hk;have hHs: ∀k o,H k=some o->w.heap[k]? =some o/\ ¬ ∃l,ρ b=some l/\l.blk=k:=fun k o e=>by
  by_cases hk: ∃l,ρ b=some l/\l.blk=k;all_goals grind
 have hfz: ∀k o,ρ.fz k=some o->H k=some o:=fun k o e=>by
  rw [hH k fun ⟨l,h1,h2⟩=>by
   have:=eB.sep b l h1 (by rw [hm];rfl)
   grind]
  exact eB.old k o e
 have hbare:ρ.bare.le (JN H (ρ b)):=⟨fun _ _ e=>(by cases e),hfz,fun _ _ e=>(by cases e)⟩
 have key: ∀(n0:Nat) (u:Value),Zn ρ (.sla b A.sz 0 n0 (.un A.sz)) u->Zn (JN H (ρ b)) (.sla 0 A.sz 0 n0 (.un A.sz)) u:=fun n0 u h1=>by
  cases h1 with
  | sla _ _ _ _ _ l c h hc eC=>exact .sla 0 _ 0 _ _ l c (by show (if (0:Nat)=0 then ρ b else none)=_;grind) hc eC
  | slan _ _ _ _=>exact .slan _ _ _ _
 have hargs1:Ux (Zn (JN H (ρ b))) (.sla 0 A.sz 0 A.n (.un A.sz)::r) vals.toList:=by
  generalize vals.toList=us at eD;cases eD with
  | cons h1 h2=>
   refine .cons ?_ ?_
   .grind
   .exact Ux.of h2.length fun i g1 g2=>(Ky 3 _ _ (Ax.1 hr _ (AL g1)) (h2.get i g1 g2)).mono hbare
 have hget0: ∀l,JN H (ρ b) 0=some l↔ρ b=some l:=fun l=>Iff.rfl;have eS: ∀c l,JN H (ρ b) c=some l->c=0/\ρ b=some l:=fun c l e=>by
  have e:(if c=0 then ρ b else none)=some l:=e
  grind
 have hm1:Yi (FL ty A.sz A.n A.get) 0=some ⟨rows A.n A.get,ty,some ⟨A.sz,A.n,.flat A.get⟩⟩:=Zs _ _ _;have fB:CB (JN H (ρ b)) (FL ty A.sz A.n A.get) 1 w:=by
  refine ⟨fun c l e=>by grind,fun c c' l l' e e' _ _ _=>by grind,fun c l ab e hc=> ?_,fun k o e=>(hHs k o e).1,fun c l e _=> ?_,fun c l e=>eB.real b l (eS c l e).2,fun c hc=> ?_,⟨fun j l e=>(by cases e),eB.ldom.2.mono hfz⟩⟩
  .obtain ⟨rfl,e2⟩:=eS c l e;rw [hm1] at hc;obtain rfl:=Ag hc;have q:=(eB.blk b l _ e2 hm).rows rfl;obtain ⟨q0,q1,q2,q3,cs,el,q4,q5,q6⟩:=q;obtain ⟨a1,a2,a3⟩:=q3 A rfl;simp only at a1;subst a1;have q':Vv ρ w ⟨rows A.n A.get,ty,some ⟨A.sz,A.n,.flat A.get⟩⟩ l:=.plain ⟨q0,q1,q2,fun B e=>by
    obtain rfl:=Ag e;exact ⟨rfl,a2,a3⟩,cs,el,q4,q5,q6⟩
   exact q'.pl (v3i hp) _
  .obtain ⟨_,e2⟩:=eS c l e;exact AG ⟨l,e2,rfl⟩
  .show Yi (Wm .leaf 0 _) c=none;rw [Zw _ _ (by omega)];rfl
 have fC: ∀k o,w.heap[k]? =some o->(∃l0,ρ b=some l0/\l0.blk=k)\/H k=some o:=fun k o e=>by
  grind
 refine (hF A.sz A.n A.get r n' g hv hp hp' hsz H (ρ b) vals w hargs1 fB fC).mono fun e w' ⟨ρ1,u,m',nx,b1,he,hu,hmb,hr1,hfz1,gC,hos,htape,hout⟩=> ?_;have hgone: ∀k,(¬ ∃l,ρ b=some l/\l.blk=k)-> ∀o,w.heap[k]? =some o->w'.heap[k]? =some o/\ρ1.fz k=some o:=fun k hk o e=>by have h2:=hfz1 k o ((hH k hk).trans e);exact ⟨hr1.old k o h2,h2⟩
 let ρ':B9:=⟨fun c=>if c=next then ρ1 b1 else ρ c,ρ.fz,ρ.lp⟩
 have eK: ∀c l,ρ' c=some l->(c=next/\ρ1 b1=some l)\/(c≠next/\ρ c=some l):=fun c l e=>by
  grind
 have hnew:ρ' next=ρ1 b1:=AG rfl
 have holdc: ∀c,c<next->ρ' c=ρ c:=fun c hc=>Az (by omega)
 have hle:ρ.le ρ':=⟨fun c l e=>by rw [holdc c (eB.dom c l e)];exact e,fun _ _ e=>e,fun _ _ e=>e⟩
 have hm': ∀c,c≠next->Yi (Wm (Wm mem b none) next (some ⟨rows n' g,ty,some ⟨A.sz,n',.flat g⟩⟩)) c=if c=b then none else Yi mem c:=fun c hc=>by
  grind [Zw,Zs]
 have hmn:Yi (Wm (Wm mem b none) next (some ⟨rows n' g,ty,some ⟨A.sz,n',.flat g⟩⟩)) next=some ⟨rows n' g,ty,some ⟨A.sz,n',.flat g⟩⟩:=Zs _ _ _
 have hother: ∀c l,ρ c=some l->(Yi mem c).isSome =true->c≠b-> ¬ ∃l',ρ b=some l'/\l'.blk=l.blk:=fun c l e hs hcb ⟨l',e',hb⟩=>hcb (eB.inj c b l l' e e' hb.symm hs (by rw [hm];rfl));have gD: ∀c l,ρ c=some l-> ∃o,w.heap[l.blk]? =some o:=fun c l e=>⟨_,BC (eB.real c l e)⟩
 have hsepn: ∀l,ρ1 b1=some l->ρ1.fz l.blk=none:=fun l e=>hr1.sep b1 l e (by rw [hmb];rfl);have eT:Zn ρ' (.sla next A.sz 0 n' (.un A.sz)) u:=by
  cases hu with
  | sla _ _ _ _ _ l c h hc eC=>exact .sla next _ 0 _ _ l c (hnew.trans h) hc eC
  | slan _ _ _ _=>exact .slan _ _ _ _
 refine ⟨ρ',u,he,eT,?_,?_⟩
 .refine ⟨fun c l e=> ?_,fun c c' l l' e e' hbl hs hs'=> ?_,fun c l ab e hc=> ?_,fun k o e=> ?_,fun c l e hs=> ?_,fun c l e=> ?_,fun c hc=> ?_,⟨fun j l e=>Bm (eB.ldom.1 j l e),eB.ldom.2⟩⟩
  .rcases eK c l e with ⟨rfl,_⟩ | ⟨_,e⟩
   .omega
   .have:=eB.dom c l e;omega
  .have clash: ∀c l l',c≠next->ρ c=some l->ρ1 b1=some l'->l.blk=l'.blk->(Yi (Wm (Wm mem b none) next (some ⟨rows n' g,ty,some ⟨A.sz,n',.flat g⟩⟩)) c).isSome =true->False:=fun c l l' hc e e' hbl hs=>by
    grind
   rcases eK c l e with ⟨h1,h2⟩ | ⟨h1,h2⟩ <;> rcases eK c' l' e' with ⟨h1',h2'⟩ | ⟨h1',h2'⟩
   .rw [h1,h1']
   .grind
   .grind
   .rw [hm' c h1] at hs;rw [hm' c' h1'] at hs';by_cases hcb:c=b
    .grind
    .by_cases hcb':c'=b
     .grind
     .rw [Az hcb] at hs;rw [Az hcb'] at hs';exact eB.inj c c' l l' h2 h2' hbl hs hs'
  .rcases eK c l e with ⟨h1,h2⟩ | ⟨h1,h2⟩
   .subst h1;rw [hmn] at hc;obtain rfl:=Ag hc;have q:=(hr1.blk b1 l _ h2 hmb).pl (v3i hp') ρ';exact .plain ⟨(q.rows rfl).typ,q.n,q.tot,q.arr,(q.rows rfl).cells⟩
   .rw [hm' c h1] at hc;by_cases hcb:c=b
    .grind
    .rw [Az hcb] at hc;obtain ⟨o,ho⟩:=gD c l h2;refine (eB.blk c l ab h2 hc).world hle ?_;rw [(hgone l.blk (hother c l h2 (by rw [hc];rfl) hcb) o ho).1,ho]
  .have h1:=hfz k o e;obtain ⟨h2,h3⟩:=hHs k o h1;exact (hgone k h3 o h2).1
  .rcases eK c l e with ⟨h1,h2⟩ | ⟨h1,h2⟩
   .cases hq:ρ.fz l.blk with
    | none=>rfl
    | some o=>
     grind
   .rw [hm' c h1] at hs;by_cases hcb:c=b
    .grind
    .rw [Az hcb] at hs;exact eB.sep c l h2 hs
  .rcases eK c l e with ⟨h1,h2⟩ | ⟨h1,h2⟩
   .exact hr1.real b1 l h2
   grind
  .rw [hm' c (by omega),Az (by omega)];exact eB.bd c (by omega)
 .refine ⟨hle,fun c hc=>holdc c hc,by omega,fun c hc hn cs ty2 hq=> ?_,fun k o hk hn=> ?_,fun c l hc e=> ?_,gC,hos,htape,hout,fun k _=>rfl⟩
  .grind
  .exact (hgone k (fun ⟨l,h1,h2⟩=>hn b l h1 hfl h2) o hk).1
  .rcases eK c l e with ⟨h1,h2⟩ | ⟨h1,h2⟩
   .rcases A7 l.blk w.heap.size with h | h
    .rcases fC l.blk _ (BC h) with ⟨l0,h3,h4⟩ | h3;all_goals grind
    grind
   grind
theorem y9f {S:B7} {R:CF} (hS:Zv P S) (hR:GY P R) {lift:Bool} {f:FuncId} {args:zx} {cx:CL} {st st':St} {v:B5} (hcx:cx.floor<=st.next) (h:Q8 P S R lift f args cx st=some (v,st')) (hob:st'.ob=true)
  {vals:Array Value} (eD:Ux (Zn ρ) args vals.toList) {w:World} (eB:CB ρ st.mem st.next w):
  (∃fn,P.funcs[f]? =some fn/\fn.body.isSome=true)/\Calls P f vals w fun e w'=> ∃ρ' u,e=.returned u/\D2 ρ cx.floor st st' v w ρ' u w':=by
 unfold Q8 at h;split at h
 .rename_i F hF;rcases Ui h with ⟨hca,h⟩ | ⟨_,h⟩
  .split at h
   .rename_i v' b hFa;obtain ⟨hc2,h⟩:=Ze h;have hc1:=Ax.1 hca;simp only [Ao,Ac] at h;obtain ⟨st1,h1,rfl,rfl⟩:=h;obtain ⟨_,e2,e3,e4⟩:=Wa h1;obtain ⟨rfl,_⟩:=e4 hob;obtain ⟨hfn,eQ⟩:=hS f _ hF;refine ⟨hfn,?_⟩;have hargs0:Ux (Zn ρ.bare) args vals.toList:=Ux.of eD.length fun i g1 g2=>Ky 3 _ _ (hc1 _ (AL g1)) (eD.get i g1 g2);refine (eQ args v' hFa ρ.fz vals w hargs0 eB.old eB.ldom.2).mono fun e w' ⟨H',u,hle,hold,eO,he,hv,hb⟩=>⟨⟨ρ.f,H',ρ.lp⟩,u,he,Zn.mono (ρ:=DI H') (ρ':=⟨ρ.f,H',ρ.lp⟩) ⟨fun _ _ e=>(by cases e),fun _ _ e=>e,fun _ _ e=>(by cases e)⟩ hv,?_,?_⟩
    .rw [e2,e3];have hle':ρ.le ⟨ρ.f,H',ρ.lp⟩:=⟨fun _ _ e=>e,hle,fun _ _ e=>e⟩
     exact ⟨eB.dom,eB.inj,fun b l ab q1 q2=>(eB.blk b l ab q1 q2).world hle' (hb.block _ (eB.real b l q1)),hold,fun b l q hs=>(eO _ (eB.real b l q)).trans (eB.sep b l q hs),fun b l q=>A1 (eB.real b l q) hb.size,eB.bd,eB.ldom.1,eB.ldom.2.mono hle⟩
    .rw [e2,e3];exact ⟨⟨fun _ _ e=>e,hle,fun _ _ e=>e⟩,fun _ _=>rfl,Aj _,fun _ _ _ _ _ h=>h,fun k o hk _=>by rw [hb.block k (AB.1 hk).1];exact hk,
      fun b l hb' hl=>by grind,hb.size,hb.os,hb.tape,hb.output,eO⟩
   .cases h
  .split at h;rename_i args' o hview;split at h
   .rename_i v' b hFa;obtain ⟨hc,h⟩:=Ze h;simp only [Ad] at hc;simp only [Ao,Ac] at h;obtain ⟨st1,h1,rfl,rfl⟩:=h;obtain ⟨_,e2,e3,e4⟩:=Wa h1;obtain ⟨hob1,_⟩:=e4 hob;simp only [Ad] at hob1;obtain ⟨ho,rfl⟩:=hob1;obtain ⟨hfn,eQ⟩:=hS f _ hF;refine ⟨hfn,?_⟩;have hargs0:=x8q eB eD hview ho hc.1;refine (eQ args' v' hFa (fun k=>w.heap[k]?) vals w hargs0 (fun _ _ e=>e) (eB.ldom.2.mono eB.old)).mono fun e w' ⟨H',u,hle,hold,eO,he,hv,hb⟩=>⟨ρ,u,he,w7p hc.2 hv,?_,?_⟩
    .rw [e2,e3];exact ⟨eB.dom,eB.inj,fun b l ab q1 q2=>(eB.blk b l ab q1 q2).world (B9.le_refl _) (hb.block _ (eB.real b l q1)),fun k o q=>by rw [hb.block k (AB.1 (eB.old k o q)).1];exact eB.old k o q,eB.sep,fun b l q=>A1 (eB.real b l q) hb.size,eB.bd,eB.ldom⟩
    .rw [e2,e3];exact ⟨B9.le_refl _,fun _ _=>rfl,Aj _,fun _ _ _ _ _ h=>h,fun k o hk _=>by grind,
      fun b l hb' hl=>by grind,hb.size,hb.os,hb.tape,hb.output,fun _ _=>rfl⟩
   .cases h
 .rename_i F hF;split at h
  .rename_i v0 b blk o hFa;split at h
   .rename_i ab hm;obtain ⟨hc,h⟩:=Ze h;simp only [Ad] at hc;simp only [Ao,Ac] at h;obtain ⟨st1,h1,rfl,rfl⟩:=h;obtain ⟨_,e2,e3,e4⟩:=Wa h1;obtain ⟨rfl,_⟩:=e4 hob;obtain ⟨hfn,eQ⟩:=hS f _ hF;refine ⟨hfn,?_⟩;refine (eQ args st.mem v0 b blk hFa (by rw [hm];rfl) ρ st.next cx.floor vals w (Al hc.2) eD eB).mono fun e w' ⟨u,he,hv,hr,hev⟩=>⟨ρ,u,he,hv,?_,?_⟩
    .rw [e2,e3];exact hr
    .rw [e2,e3];exact hev
   .cases h
  .cases h
 .rename_i ty0 F hF;split at h
  .rename_i b sz n sz' r;split at h
   .rename_i cells ty A hm;obtain ⟨hc,h⟩:=Ze h;simp only [Ad] at hc;obtain ⟨⟨c0,c1,c2⟩,c4,c5,c6⟩:=hc;have c0:=Ai c0;split at h
    .rename_i n' g o hFa;simp only [Ao,Ac] at h;obtain ⟨st1,h1,rfl,rfl⟩:=h;obtain ⟨env,mem,next,orc,ob⟩:=st;simp only at h1 hm hcx eB ⊢;obtain ⟨_,e2,e3,e4⟩:=Wa h1;obtain ⟨hob1,_⟩:=e4 hob;simp only [Ad] at hob1;obtain ⟨rfl,c3,hp,hp'⟩:=hob1;obtain ⟨hfn,eQ⟩:=hS f _ hF;rw [<-c0] at eQ;obtain rfl:=Ai c1;refine ⟨hfn,?_⟩;refine (v5z eQ hm ⟨Ai c2,Ai c3⟩ c4 (Al c5) (Al c6) hFa hp hp' eD eB).mono fun e w' ⟨ρ',u,he,hv,hr,hev⟩=>⟨ρ',u,he,hv,?_,?_⟩
     all_goals grind
    .cases h
   .cases h
  .cases h
 .split at h
  .rename_i fn hf;split at h
   .rename_i body hb;split at h
    .rename_i st2 hr;split at h
     .rename_i vs hvs;simp only [Ae,Ac] at h;obtain ⟨rfl,rfl⟩:=h;refine ⟨⟨fn,hf,by rw [hb];rfl⟩,?_⟩;intro cs
      let b:Frame:={(default:Frame) with fn:=f,kind:=.normal}
      have gE:Frame.enter P f vals .normal =b.at {tmps:=vals++Array.replicate (fn.ntmps - vals.size) undef,defers:=[]} [.code body]:=by simp [Frame.enter,Frame.at,hf,hb,b]
      obtain ⟨ρ',a',todo',w',eV,hd,eG,eX,hev⟩:=hR _ _ _ _ (by
       cases lift with
       | false=>exact hcx
       | true=>exact Aj _) hr hob ρ {tmps:=vals++Array.replicate (fn.ntmps - vals.size) undef,defers:=[]} w b cs rfl (ZW eD fn.ntmps) eB
      obtain ⟨u,hu,gH⟩:=ZA eG eX hvs;rw [<-gE] at eV;refine ⟨.returned u,w',_,⟨ρ',u,rfl,hu,eX,?_⟩,eV,rfl,rfl,hd,rfl,fn,hf,gH⟩;refine hev.lower ?_
      grind
     .cases h
    .cases h
   .cases h
  .cases h
theorem x4i {S:B7} {R:CF} (hN:EC P) (hS:Zv P S) (hR:GY P R) {lift:Bool} {o:Oper} {cx:CL} {st st':St} {v:B5} (hcx:cx.floor<=st.next)
  (h:Vb P S R lift o.op cx st=some (v,st')) (hob:st'.ob=true) {ev:Operand->B5} (hev: ∀x,x∈o.op.operands->ev x=st.eval x) {a:Act} (hr:Qn ρ ev a.eval o.op) {w:World} (eB:CB ρ st.mem st.next w):
  OV P o a w (D2 ρ cx.floor st st' v w):=by
 obtain ⟨dst,op,type,pos,after,guard⟩:=o;simp only at h hr hev
 replace hr:Qn ρ st.eval a.eval op:=fun x hx=>by rw [<-hev x hx];exact hr x hx
 clear hev;unfold Vb at h;split at h
 .rename_i t x;split at h
  .rename_i v' b st0 hv;obtain ⟨l1,l2,l3,l4⟩:=U2 hv;simp only [Ao,Ac] at h;obtain ⟨st1,h1,rfl,rfl⟩:=h;obtain ⟨e1,e2,e3,e4⟩:=Wa h1;obtain ⟨rfl,hob0⟩:=e4 hob;obtain ⟨z,hz,eE⟩:=y3v eB (l4 hob0).1 (hr x (by simp [Op.operands]));exact .inl ⟨ρ,z,w,by simp [execOp,eE],hz,by grind,by rw [e2,e3,l2,l3];exact Ev.refl _ _ _ _ _ eB.dom⟩
  .cases h
 .rename_i t;simp only [Ao,Ac] at h;obtain ⟨z,hz,rfl,rfl⟩:=h;obtain ⟨_,zv,_,_,hzr,hzv⟩:=Ws (ρ:=ρ) hz;refine .inl ⟨_,.pointer (some ⟨w.heap.size,0,none⟩),_,?_,Ph eB cx.floor z t zv.cells t (by rw [hzr.1];grind) hzr.2 _ _ fun ρ' hρ'=>.ptr _ 0 _ hρ'⟩;simp_all [execOp,Instr.alloc,newVar,newRow]
 .rename_i t x;obtain ⟨hbx,h⟩:=Ze h;simp only [Ae,Ac] at h;obtain ⟨rfl,rfl⟩:=h;have hc:=(hr x (by simp [Op.operands])).cells hbx;refine .inl ⟨_,.pointer (some ⟨w.heap.size,0,none⟩),_,?_,Ph eB cx.floor _ t (a.eval x).cells t (by rw [hc.1];grind) hc.2 _ _ fun ρ' hρ'=>.ptr _ 0 _ hρ'⟩;simp [execOp,Instr.box,newVar,newRow]
 .rename_i t len parts;obtain ⟨ρ',u,w',eE,hp,_,_⟩:=y3c eB cx.floor h (U5 parts.toList fun p hp=>hr p.2 (by grind [Op.operands]));refine .inl ⟨ρ',u,w',?_,hp⟩;have:(parts.map fun (i,x)=>(i,a.eval x))=(parts.toList.map fun p=>(p.1,a.eval p.2)).toArray :=by
   grind
  simp [execOp,this,eE]
 .rename_i t x y;split at h
  .rename_i b sz r fo hb;simp only [Ao,Ac] at h;obtain ⟨st1,h,rfl,rfl⟩:=h;have hx:=hr x (by simp [Op.operands]);rw [hb] at hx;obtain ⟨w',eE,hp⟩:=x4e eB h hob hx (hr y (by simp [Op.operands]));exact .inr (.inl ⟨ρ,w',by simp [execOp,eE],hp⟩)
  .simp only [Ao,Ac] at h;obtain ⟨st1,h,rfl,rfl⟩:=h;obtain ⟨w',eE,hp,_,_⟩:=x7s eB h (hr x (by simp [Op.operands])) (hr y (by simp [Op.operands]));exact .inr (.inl ⟨ρ,w',by simp [execOp,eE],hp⟩)
 .rename_i t l c;rcases Ui h with ⟨_,h⟩ | ⟨_,h⟩
  .rcases Ui h with ⟨_,h⟩ | ⟨_,h⟩
   .obtain ⟨ρ',u,w',eE,hp,_,_⟩:=ZH (st:=st.dropO) eB cx.floor h (hr l (by simp [Op.operands])) (hr c (by simp [Op.operands]));exact .inl ⟨ρ',u,w',by simp [execOp,eE],hp.val,hp.rel,hp.ev⟩
   .obtain ⟨ρ',u,w',eE,hp⟩:=y2z (st:=st.dropO) eB h hob (hr l (by simp [Op.operands])) (hr c (by simp [Op.operands]));exact .inl ⟨ρ',u,w',by simp [execOp,eE],hp.val,hp.rel,hp.ev⟩
  .obtain ⟨ρ',u,w',eE,hp,_,_⟩:=ZH eB cx.floor h (hr l (by simp [Op.operands])) (hr c (by simp [Op.operands]));exact .inl ⟨ρ',u,w',by simp [execOp,eE],hp⟩
 .rename_i args argTypes;have eD:Ux (Zn ρ) (args.toList.map st.eval) (args.map a.eval).toList :=by rw [Bs];exact Ux.maps _ _ _ fun x hx=>hr x (by grind [Op.operands,Call.operands])
  unfold Ii at h;rcases Ui h with ⟨_,h⟩ | ⟨hty,h⟩
  .cases h
  rw [Bool.not_eq_false'] at hty;rcases Ui h with ⟨_,h⟩ | ⟨_,h⟩
  .obtain ⟨ρ',u,w',eE,hp⟩:=x0f (type:=type) eB h hob eD hty;exact .inl ⟨ρ',u,w',by simp_all [execOp,resolve,invoke,builtin],hp⟩
  split at h
  .rename_i hxs;obtain ⟨ρ',u,w',eE,hp,_⟩:=z8b (type:=type) eB h hob (hxs ▸ eD) (by rw [hxs] at hty;exact hty);exact .inl ⟨ρ',u,w',by simp_all [execOp,resolve,invoke,builtin],hp⟩
  .obtain ⟨ρ',u,w',eE,hp,_,_⟩:=VB (type:=type) eB cx.floor h eD hty;exact .inl ⟨ρ',u,w',by simp_all [execOp,resolve,invoke,builtin],hp⟩
 .rename_i args argTypes;have eD:Ux (Zn ρ) (args.toList.map st.eval) (args.map a.eval).toList :=by rw [Bs];exact Ux.maps _ _ _ fun x hx=>hr x (by grind [Op.operands,Call.operands])
  unfold QI at h;split at h
  .rename_i b sz off len cap x xs hxs;obtain ⟨ρ',u,w',eE,hp⟩:=y3w (type:=type) (d:=.sla b sz off len cap) eB h hob (hxs ▸ eD) fun u hu=>by
    cases hu with
    | sla _ _ _ _ _ l c hρ _ eC=>grind
    | slan=>grind
   exact .inl ⟨ρ',u,w',by simp_all [execOp,resolve,invoke,builtin],hp⟩
  .rename_i b sz off len x xs hxs;obtain ⟨ρ',u,w',eE,hp⟩:=y3w (type:=type) (d:=.slv b sz off len) eB h hob (hxs ▸ eD) fun u hu=>by
    cases hu with
    | slv _ _ _ _ l c hρ eC=>grind
    | slve _ _ _ blk base c=>grind
    | slvn=>grind
   exact .inl ⟨ρ',u,w',by simp_all [execOp,resolve,invoke,builtin],hp⟩
  .obtain ⟨ρ',u,w',eE,hp,_,_⟩:=w3v (type:=type) eB cx.floor h eD;exact .inl ⟨ρ',u,w',by simp_all [execOp,resolve,invoke,builtin],hp⟩
 .rename_i args argTypes;have eD:Ux (Zn ρ) (args.toList.map st.eval) (args.map a.eval).toList :=by rw [Bs];exact Ux.maps _ _ _ fun x hx=>hr x (by grind [Op.operands,Call.operands])
  obtain ⟨ρ',u,w',eE,hp,_,_⟩:=x7y (type:=type) eB cx.floor h eD;exact .inl ⟨ρ',u,w',by simp_all [execOp,resolve,invoke,builtin],hp⟩
 .rename_i f args argTypes;split at h
  .rename_i g caps hg;have hf:=hr f (by simp [Op.operands,Call.operands]);rw [hg] at hf;generalize hw:a.eval f=u at hf;cases hf with
   | fn _ _ cvs hl hh=>
    have eD:Ux (Zn ρ) (args.toList.map st.eval++caps) (args.map a.eval++cvs).toList :=by rw [Array.toList_append,Bs];exact Ux.append (Ux.maps _ _ _ fun x hx=>hr x (by grind [Op.operands,Call.operands])) (Ux.of (by grind) fun i h1 h2=>by grind)
    obtain ⟨⟨fn,hfn,hb⟩,hc⟩:=y9f hS hR hcx h hob eD eB;refine .inr (.inr ⟨g,args.map a.eval++cvs,?_,hc⟩);simp_all [Pu,execOp,resolve,Deferred.ofValue,invoke]
  .rename_i g first hg
   have hf:=hr f (by simp [Op.operands,Call.operands]);rw [hg] at hf;generalize hw:a.eval f=u at hf;cases hf with
   | fnb _ _ cvs hl hh=>
    have eD:Ux (Zn ρ) (first++args.toList.map st.eval) (cvs++args.map a.eval).toList :=by rw [Array.toList_append,Bs];exact Ux.append (Ux.of (by grind) fun i h1 h2=>by grind) (Ux.maps _ _ _ fun x hx=>hr x (by grind [Op.operands,Call.operands]))
    obtain ⟨⟨fn,hfn,hb⟩,hc⟩:=y9f hS hR hcx h hob eD eB;refine .inr (.inr ⟨g,cvs++args.map a.eval,?_,hc⟩);simp_all [Pu,execOp,resolve,Deferred.ofValue,invoke]
  .cases h
 .cases h
end
section
variable {P:Program} {ρ:B9}
theorem Vg.congr {env env':T B5} {n:Nat} {tmps:Array Value} (h:Vg ρ env n tmps) (he: ∀t,T.get .undef env' t=T.get .undef env t):Vg ρ env' n tmps:=
 ⟨h.size,fun i=>by rw [he];exact h.get i,fun i hi=>by rw [he];exact h.out i hi⟩
theorem Vg.eval {st:St} {n:Nat} {a:Act} (h:Vg ρ st.env n a.tmps) (x:Operand):Zn ρ (st.eval x) (a.eval x):=by
 cases x with
 | tmp t=>exact h.get t
 | const v=>exact v4x v
 | global g=>exact .undef _
 | func f=>exact .fn f [] #[] rfl fun i h1 _=>by simp at h1
theorem Vg.put {env env':T B5} {n:Nat} {a:Act} (h:Vg ρ env n a.tmps) {dst:Option Tmp} {v:B5} {u:Value} (hv:Zn ρ v u)
  (hp:(dst=none/\env'=env)\/ ∃d,dst=some d/\d<n/\env'=T.set .undef env d v):Vg ρ env' n (a.put dst u).tmps :=by
 rcases hp with ⟨rfl,rfl⟩ | ⟨d,rfl,hd,rfl⟩
 .exact h
 .have hsz:=h.size;refine ⟨by simp [Act.put,hsz],fun i=> ?_,fun i hi=> ?_⟩
  .rw [T.get_set];by_cases hi:i=d
   .simp_all [Act.put]
   .rw [Az hi];have:=h.get i
    simpa [Act.put,Array.getElem?_setIfInBounds_ne (Ne.symm hi)] using this
  .rw [T.get_set,Az (Nat.ne_of_gt (A1 hd hi))];exact h.out i hi
theorem Act.put_defers' (a:Act) (dst:Option Tmp) (v:Value):(a.put dst v).defers =a.defers:=by cases dst <;> rfl
theorem v0z {ops:Array Oper} {o:Oper} {cx:CL} {st st':St} {e:Bool} (h:HN ops o cx st=some (e,st')):st'.mem=st.mem/\st'.next=st.next/\(st'.ob=true->st.ob=true/\ ∀t,st'.tmp t=st.tmp t):=by
 unfold HN at h;split at h
 .grind
 .split at h
  .cases h
  .rename_i d hd;split at h
   .rename_i b hb;split at h;rename_i e1 st1 ht;split at h
    .rename_i st2 hp;simp only [Ae,Ac] at h;obtain ⟨_,rfl⟩:=h;obtain ⟨t1,t2,t3,t4⟩:=RM ht;obtain ⟨p1,p2,p3,p4⟩:=Vp hp;refine ⟨p1.trans t2,p2.trans t3,fun ho=> ?_⟩;rw [p3] at ho;obtain ⟨rfl,ho⟩:=t4 ho;refine ⟨ho,fun t=> ?_⟩;rcases p4 with ⟨e,_⟩ | ⟨d',e,_,he⟩
     .cases e
     .obtain rfl:=Ag e;show T.get .undef st2.env t=T.get .undef st.env t;rw [he,t1,T.get_set];split
      .rename_i h;subst h;exact hb.symm
      .rfl
    .cases h
   all_goals grind
def Jj (ops:Array Oper) (o:Oper):Option Tmp:=o.guard.bind fun g=>(ops[g.1]?).bind (·.dst)
theorem w3q {ops:Array Oper} {o:Oper} {cx:CL} {st st':St} {e:Bool} (h:HN ops o cx st=some (e,st')) (ho:st'.ob=true) {tmps:Array Value} (hsz:tmps.size=cx.n)
  (hr: ∀d,Jj ops o=some d->Zn ρ (st.tmp d) (tmps.getD d undef)):Region.wanted o (yielded ops tmps)=e:=by
 unfold HN at h;unfold Region.wanted;split at h
 .grind
 .rename_i j want hg;rw [hg];simp only;split at h
  .cases h
  .rename_i d hd;have hrd:=hr d (by simp [Jj,hg,hd]);split at h
   .rename_i b hb;split at h;rename_i e1 st1 ht;split at h
    .rename_i st2 hp;simp only [Ae,Ac] at h;obtain ⟨rfl,rfl⟩:=h;obtain ⟨_,_,_,t4⟩:=RM ht;obtain ⟨_,_,p3,p4⟩:=Vp hp;rw [p3] at ho;obtain ⟨rfl,_⟩:=t4 ho;rcases p4 with ⟨e,_⟩ | ⟨d',e,hlt,_⟩
     .cases e
     .obtain rfl:=Ag e;rw [hb] at hrd;have hlt':d<tmps.size:=(by grind);have eK:tmps.getD d undef=tmps[d]:=(by simp [hlt']);rw [eK] at hrd;have:yielded ops tmps j=some e1:=by unfold yielded;rw [hd];simp only [Option.bind_some,BC hlt'];generalize tmps[d]=u at hrd;cases hrd;rfl
      grind
    .cases h
   .rename_i hb;simp only [Ae,Ac] at h;obtain ⟨rfl,rfl⟩:=h;rw [hb] at hrd;have:yielded ops tmps j=none:=by
     unfold yielded;rw [hd];simp only [Option.bind_some];by_cases hlt:d<tmps.size
     .have eK:tmps.getD d undef=tmps[d]:=(by simp [hlt]);rw [eK] at hrd;rw [BC hlt];generalize tmps[d]=u at hrd;cases hrd;rfl
     grind
    grind
   .cases h
theorem v7k {cx:CL} {t:Nat} {kd:IntKind} {n:Int} {st st':St} (ht:st.tmp t=.int kd n) (h:st.conc cx t kd n=some st'):st'.mem=st.mem/\st'.next=st.next/\(st'.ob=true->st.ob=true/\ ∀t,st'.tmp t=st.tmp t):=by
 obtain ⟨env,mem,next,orc,ob⟩:=st;cases orc with
 | nil=>
  obtain rfl:=Ag h
  grind
 | cons o r=>
  unfold St.conc at h;obtain ⟨_,h⟩:=Ze h;obtain rfl:=Ag h;refine ⟨rfl,rfl,fun ho=> ?_⟩;simp only [Ad,An] at ho;refine ⟨ho.2,fun k=> ?_⟩;show T.get .undef (T.set .undef env t _) k=T.get .undef env k;rw [T.get_set];split
  .rename_i e;subst e;rw [<-ho.1];exact ht.symm
  .rfl
theorem v1e {o:Oper} {cx:CL} {st st':St} (h:XX o cx st=some st'):st'.mem=st.mem/\st'.next=st.next/\(st'.ob=true->st.ob=true/\ ∀t,st'.tmp t=st.tmp t):=by
 grind [XX,v7k]
theorem Qf {ops:Array Oper} {o:Oper} {cx:CL} {st st':St} {e:Bool} (h:Fs ops o cx st=some (e,st')): ∃st1,HN ops o cx st=some (e,st1)/\st'.mem=st1.mem/\st'.next=st1.next/\(st'.ob=true->st1.ob=true/\ ∀t,st'.tmp t=st1.tmp t)/\(Xc o.op=.alloc \/e=false->st'=st1):=by
 unfold Fs at h;split at h
 .rename_i st1 h1;split at h
  .rename_i st2 h2;simp only [Ae,Ac] at h;obtain ⟨rfl,rfl⟩:=h;obtain ⟨c1,c2,c3⟩:=v1e h2;refine ⟨st1,h1,c1,c2,c3,fun hk=> ?_⟩;rcases hk with hk | hk
   .unfold XX at h2;split at h2
    .rename_i ho;rw [ho] at hk;cases hk
    .rename_i ho;rw [ho] at hk;cases hk
    grind
   .cases hk
  .cases h
 grind
theorem Wr {ops:Array Oper} {o:Oper} {cx:CL} {st st':St} {e:Bool} (h:Fs ops o cx st=some (e,st')):st'.mem=st.mem/\st'.next=st.next/\(st'.ob=true->st.ob=true/\ ∀t,st'.tmp t=st.tmp t):=by
 grind [Qf,v0z]
theorem Un {ops:Array Oper} {o:Oper} {cx:CL} {st st':St} {e:Bool} (h:Fs ops o cx st=some (e,st')) (ho:st'.ob=true) {tmps:Array Value} (hsz:tmps.size=cx.n)
  (hg: ∀d,Jj ops o=some d->Zn ρ (st.tmp d) (tmps.getD d undef)):Region.wanted o (yielded ops tmps)=e:=by
 obtain ⟨st1,h1,_,_,c3,_⟩:=Qf h;exact w3q h1 (c3 ho).1 hsz hg
structure j6j (P:Program) (cx:CL) (o:Oper) (st st':St) (v:B5):Prop where
 ob:st.ob=true
 does: ∀(ρ:B9) (a:Act) (w:World) (ev:Operand->B5),(∀x,x∈o.op.operands->ev x=st.eval x)->Qn ρ ev a.eval o.op->CB ρ st.mem st.next w->OV P o a w (D2 ρ cx.floor st st' v w)
 calm:(Xc o.op=.pure \/Xc o.op=.read)-> ∀(ρ:B9) (a:Act) (w:World) (ev:Operand->B5) (mem:CE) (next:Nat),(∀x,x∈o.op.operands->ev x=st.eval x)->Qn ρ ev a.eval o.op->CB ρ mem next w->
  (∀t y b ab,o.op=.load t y->ES o.op ev=some b->Yi st.mem b=some ab->Yi mem b=some ab)-> ∃u,(execOp a.eval o).run P w=.ok (.value u) w/\Zn ρ v u
theorem v5q {op:Op} {ev:Operand->B5} {x:B5×Bool} (h:Cq P op ev=some x):Xc op=.pure :=by
 cases op with
 | call c=>
  obtain ⟨callee,args,argTypes⟩:=c;cases callee with
  | builtin b=>cases b <;> first | rfl | (simp [Cq,VD] at h)
  | value f=>simp [Cq] at h
  | invoke r m=>rfl
 | _=>first | rfl | (simp [Cq] at h;done)
theorem w1e {S:B7} {R:CF} (hN:EC P) (hS:Zv P S) (hRI:E9 R) (hR:GY P R) {lift:Bool} {o:Oper} {cx:CL} {st st':St} (hcx:cx.floor<=st.next) (h:MZ P S R lift o cx st=some st'):
  ∃v stm,stm.put cx o.dst v=some st'/\stm.env=st.env/\Xi cx.floor st stm/\((Xc o.op=.pure \/Xc o.op=.read)->stm.mem=st.mem/\stm.next=st.next)/\
   (lift=true->Xc o.op=.call -> ∀b,b<st.next->EP S o.op st.eval≠some b->Yi stm.mem b=Yi st.mem b)/\
   (Xc o.op=.chain -> ∀b,b<st.next->Dn o.op st.eval≠some b->Yi stm.mem b=Yi st.mem b)/\
   (Xc o.op=.alloc ->v=.ptr st.next 0/\ ∃t z,o.op=.alloc t/\EJ P t=some z/\stm=Cg st z t)/\
   (st'.ob=true->j6j P cx o st stm v):=by
 unfold MZ at h;split at h
 .rename_i v b hp;have hk:=v5q hp;split at h
  .rename_i st1 h1;obtain ⟨e1,e2,e3,e4⟩:=Wa h1;refine ⟨v,st1,h,e1,Xi.same e2 e3 fun x=>(e4 x).2,fun _=>⟨e2,e3⟩,(fun _ hc=>by grind),(fun hc=>by grind),(fun hc=>by grind),fun ho=> ?_⟩;obtain ⟨_,_,p3,_⟩:=Vp h;rw [p3] at ho;obtain ⟨rfl,ho1⟩:=e4 ho;refine ⟨ho1,fun ρ a w ev hev hr eB=> ?_,fun _ ρ a w ev mem next hev hr eB hag=> ?_⟩
   .have hr':Qn ρ st.eval a.eval o.op:=fun x hx=>by rw [<-hev x hx];exact hr x hx
    obtain ⟨u,hu,eE⟩:=y8y hp rfl hr';exact .inl ⟨ρ,u,w,eE w,hu,by grind,by rw [e2,e3];exact Ev.refl _ _ _ _ _ eB.dom⟩
   .have hr':Qn ρ st.eval a.eval o.op:=fun x hx=>by rw [<-hev x hx];exact hr x hx
    grind [y8y]
  .cases h
 .split at h
  .rename_i v stm he;obtain ⟨fU,eG⟩:=y9d hRI he;refine ⟨v,stm,h,eG,fU,fun hk=> ?_,fun hl hk b hb hw=> ?_,fun hk b hb hn=>x7x hk hb hn he,fun hk=> ?_,fun ho=> ?_⟩
   .obtain ⟨dst,op,type,pos,after,guard⟩:=o;simp only at hk he;cases op with
    | load t x=>
     simp only [Vb] at he;split at he
     .rename_i hl;obtain ⟨l1,l2,l3,l4⟩:=U2 hl;simp only [Ao,Ac] at he
      grind [Wa]
     .cases he
    | call c=>
     obtain ⟨callee,args,argTypes⟩:=c;cases callee with
     | builtin b=>cases b <;> first | (simp [Vb] at he;done) | (simp [Xc] at hk;done)
     | value f=>simp [Xc] at hk
     | invoke r m=>simp [Vb] at he
    | _=>first | (simp [Vb] at he;done) | (simp [Xc] at hk;done)
   .obtain ⟨dst,op,type,pos,after,guard⟩:=o;simp only at hk he;cases op with
    | call c=>
     obtain ⟨callee,args,argTypes⟩:=c;cases callee with
     | builtin b=>cases b <;> first | (simp [Vb] at he;done) | (simp [Xc] at hk;done)
     | value f=>
      grind [Vb,x7z,EP]
     | invoke r m=>simp [Vb] at he
    | _=>first | (simp [Vb] at he;done) | (simp [Xc] at hk;done)
   .obtain ⟨dst,op,type,pos,after,guard⟩:=o;simp only at hk he;cases op with
    | alloc t=>
     simp only [Vb,Ao,Ac] at he
     grind
    | call c=>
     obtain ⟨callee,args,argTypes⟩:=c;cases callee with
     | builtin b=>cases b <;> first | (simp [Vb] at he;done) | (simp [Xc] at hk;done)
     | value f=>simp [Xc] at hk
     | invoke r m=>simp [Vb] at he
    | _=>first | (simp [Vb] at he;done) | (simp [Xc] at hk;done)
   .obtain ⟨_,_,p3,_⟩:=Vp h;rw [p3] at ho;refine ⟨fU.ob ho,fun ρ a w ev hev hr eB=>x4i hN hS hR hcx he ho hev hr eB,fun hk ρ a w ev mem next hev hr eB hag=> ?_⟩;obtain ⟨dst,op,type,pos,after,guard⟩:=o;simp only at hk he hev hr hag;cases op with
    | load t x=>
     simp only [Vb] at he;split at he
     .rename_i v' bb st0 hv;obtain ⟨l1,l2,l3,l4⟩:=U2 hv;simp only [Ao,Ac] at he;obtain ⟨st1,h1,rfl,rfl⟩:=he;obtain ⟨_,_,_,e4⟩:=Wa h1;obtain ⟨rfl,hob0⟩:=e4 ho;have hv:=(l4 hob0).1;have hx:x∈(Op.load t x).operands :=(by simp [Op.operands]);have hl:MQ P mem t (ev x)=some (v',true):=by
       rw [hev x hx];have hag': ∀b ab,ES (.load t x) st.eval=some b->Yi st.mem b=some ab->Yi mem b=some ab:=fun b ab q1 q2=>hag t x b ab rfl (by grind [ES]) q2;unfold MQ at hv ⊢;split at hv
       .grind [ES]
       .rename_i y hy;unfold M9 at hv ⊢
        grind [ES]
      obtain ⟨z,hz,eE⟩:=y3v eB hl (hr x hx);simp_all [execOp]
     .cases he
    | call c=>
     obtain ⟨callee,args,argTypes⟩:=c;cases callee with
     | builtin b=>cases b <;> first | (simp [Vb] at he;done) | (simp [Xc] at hk;done)
     | value f=>simp [Xc] at hk
     | invoke r m=>simp [Vb] at he
    | _=>first | (simp [Vb] at he;done) | (simp [Xc] at hk;done)
  .cases h
theorem y7c {S:B7} {R:CF} {ops:Array Oper} {cx:CL} {x:Bool×Oper} {l:List (Bool×Oper)} {st:St}:XM P S R ops cx (x::l) st=(HV P S R ops cx x st).bind (XM P S R ops cx l):=by
 grind [XM,HV]
theorem OV.wp2 {o:Oper} {a:Act} {w:World} {K:B9->Value->World->Prop} {next:Act->World->Prop} {Q:Exit->Act->World->Prop} (h:OV P o a w K)
  (hk: ∀ρ' u w',K ρ' u w'->((execOp a.eval o).run P w=.ok (.value u) w'\/ ∀u w',(execOp a.eval o).run P w≠ .ok (.value u) w')->next (a.put o.dst u) w'):o.wp P a w next Q:=by
 unfold Oper.wp;rcases h with ⟨ρ',u,w',e,k⟩ | ⟨ρ',w',e,k⟩ | ⟨f,args,e,hc⟩
 .have:=hk _ _ _ k (.inl e);rw [e];exact this
 .have:=hk _ _ _ k (.inr fun u w' e2=>by grind);rw [e];exact this
 .rw [e];exact hc.mono fun e' w' ⟨ρ',u,he,k⟩=>by
   grind
theorem w7h (m:CE) (sz:Nat) (zero:zx) (ut:TypeDesc) (b o n:Nat) (c:E6):XC m sz zero ut (.sl b o n c)=none:=by cases ut <;> rfl
theorem v7s {cx:CL} {st:St} {ts:List TypeId} {s:B5} {b o n:Nat} {c:E6} {r:zx}:HF P cx st ts (s::.sl b o n c::r)=none:=by
 unfold HF
 grind [w7h,unN]
theorem w9t {S:B7} {R:CF} {lift:Bool} {o:Oper} {cx:CL} {st st':St} (h:MZ P S R lift o cx st=some st') (hob:st'.ob=true) {b:Nat} (hk:EQ o.op st.eval st.mem=some b) {a:Act} {w:World} (hr:Qn ρ st.eval a.eval o.op) (eB:CB ρ st.mem st.next w):
  ∃u w',(execOp a.eval o).run P w=.ok (.value u) w'/\ ∀ab l,Yi st.mem b=some ab->ρ b=some l->Vv ρ w' ab l:=by
 obtain ⟨dst,op,type,pos,after,guard⟩:=o;simp only at hk hr;unfold EQ at hk;split at hk
 .rename_i args argTypes;have eD:Ux (Zn ρ) (args.toList.map st.eval) (args.map a.eval).toList :=by rw [Bs];exact Ux.maps _ _ _ fun x hx=>hr x (by grind [Op.operands,Call.operands])
  have h:(match Ii P cx st argTypes.toList (args.toList.map st.eval) with
   | some (v,st2)=>st2.put cx dst v
   | none=>none)=some st':=h
  split at h
  .rename_i v st2 h2;have ho2:st2.ob=true:=by
    obtain ⟨_,_,p3,_⟩:=Vp h
    grind
   unfold Ii at h2;rcases Ui h2 with ⟨_,h2⟩ | ⟨hty,h2⟩
   .cases h2
   rw [Bool.not_eq_false'] at hty;split at hk
   .rename_i b' sz off len z b2 o2 n2 c2 r he;obtain rfl:=Ag hk;rw [he] at h2 eD;rcases Ui h2 with ⟨_,h2⟩ | ⟨_,h2⟩
    .rw [v7s] at h2;cases h2
    .obtain ⟨ρ',u,w',eE,_,hq⟩:=z8b (type:=type) eB h2 ho2 eD (by rw [he] at hty;exact hty);exact ⟨u,w',by simp_all [execOp,resolve,invoke,builtin],fun ab l k1 k2=>hq _ _ _ _ _ _ _ _ rfl k1 k2⟩
   .rename_i b' off len z b2 o2 n2 c2 r he;split at hk
    .rename_i blk hm;obtain ⟨hc,hk⟩:=Ze hk;obtain rfl:=Ag hk;simp only [Ad] at hc;rw [he] at h2 eD;rcases Ui h2 with ⟨_,h2⟩ | ⟨_,h2⟩
     .rw [v7s] at h2;cases h2
     .obtain ⟨ρ',u,w',eE,_,_,hq⟩:=VB (type:=type) eB cx.floor h2 eD (by rw [he] at hty;exact hty);refine ⟨u,w',by simp_all [execOp,resolve,invoke,builtin],fun ab l k1 k2=> ?_⟩;rw [hm] at k1;obtain rfl:=Ag k1;exact hq.1 _ _ _ _ _ _ _ _ _ _ _ rfl (Al hc.2) hm (Ai hc.1) k2
    .cases hk
   .cases hk
  .cases h
 .cases hk
structure j6l (S:B7) (P:Program) (ops:Array Oper) (cx:CL) (x:Bool×Oper) (st st':St):Prop where
 inv:Xi cx.floor st st'
 stay:(Xc x.2.op=.pure \/Xc x.2.op=.read)->st'.mem=st.mem/\st'.next=st.next
 lift:st'.ob=true->x.1=true->Xc x.2.op=.call -> ∀b,b<st.next->EP S x.2.op st.eval≠some b->Yi st'.mem b=Yi st.mem b
 foot:st'.ob=true->Xc x.2.op=.chain -> ∀b,b<st.next->Dn x.2.op st.eval≠some b->Yi st'.mem b=Yi st.mem b
 alloc:Xc x.2.op=.alloc ->x.2.guard=none-> ∃t z,x.2.op=.alloc t/\EJ P t=some z/\st'.mem=(Cg st z t).mem /\st'.next=(Cg st z t).next /\ ∀d,x.2.dst=some d->st'.tmp d=.ptr st.next 0
 slot: ∀d,x.2.dst=some d->d<cx.n
 other:st'.ob=true-> ∀t,x.2.dst≠some t->st'.tmp t=st.tmp t
 does:st'.ob=true-> ∀(ρ:B9) (a:Act) (w:World) (ev:Operand->B5),a.tmps.size=cx.n->(∀y,y∈x.2.op.operands->ev y=st.eval y)->(∀d,Jj ops x.2=some d->Zn ρ (st.tmp d) (a.tmps.getD d undef))->Qn ρ ev a.eval x.2.op->CB ρ st.mem st.next w->
  ∀(K:Act->World->Prop) (Q:Exit->Act->World->Prop),(∀ρ' u w',(∀d,x.2.dst=some d->Zn ρ' (st'.tmp d) u)->CB ρ' st'.mem st'.next w'->Ev ρ ρ' cx.floor st.mem st.next st'.mem st'.next w w'->(∀b ab l,EQ x.2.op st.eval st.mem=some b->Yi st.mem b=some ab->ρ b=some l->Vv ρ w' ab l)->K (a.put x.2.dst u) w')->
   if Region.wanted x.2 (yielded ops a.tmps) then x.2.wp P a w K Q else K (a.put x.2.dst undef) w
 calm:st'.ob=true->(Xc x.2.op=.pure \/Xc x.2.op=.read)-> ∀(ρ:B9) (a:Act) (w:World) (ev:Operand->B5) (mem:CE) (next:Nat),a.tmps.size=cx.n->(∀y,y∈x.2.op.operands->ev y=st.eval y)->(∀d,Jj ops x.2=some d->Zn ρ (st.tmp d) (a.tmps.getD d undef))->Qn ρ ev a.eval x.2.op->CB ρ mem next w->
  (∀t y b ab,x.2.op=.load t y->ES x.2.op ev=some b->Yi st.mem b=some ab->Yi mem b=some ab)-> ∀(K:Act->World->Prop) (Q:Exit->Act->World->Prop),(∀u,(∀d,x.2.dst=some d->Zn ρ (st'.tmp d) u)->K (a.put x.2.dst u) w)->
   if Region.wanted x.2 (yielded ops a.tmps) then x.2.wp P a w K Q else K (a.put x.2.dst undef) w
theorem x0u {S:B7} {R:CF} (hN:EC P) (hS:Zv P S) (hRI:E9 R) (hR:GY P R) {ops:Array Oper} {x:Bool×Oper} {cx:CL} {st st':St} (hcx:cx.floor<=st.next) (h:HV P S R ops cx x st=some st'):
  j6l S P ops cx x st st':=by
 unfold HV at h;split at h
 .cases h
 .rename_i st1 hw;obtain ⟨w1,w2,w3⟩:=Wr hw;obtain ⟨v,stm,hp,eG,fU,hstay,hlift,hfoot,halloc,hdo⟩:=w1e hN hS hRI hR (by grind) h;obtain ⟨p1,p2,p3,p4⟩:=Vp hp;have fN: ∀d,x.2.dst=some d->st'.tmp d=v:=fun d hd=>by
   rcases p4 with ⟨e,_⟩ | ⟨d',e,_,he⟩
   .grind
   .rw [hd] at e;obtain rfl:=Ag e;show T.get .undef st'.env d=v;rw [he,T.get_set,AG rfl]
  have hi1:Xi cx.floor st st1:=Xi.same w1 w2 fun ho=>(w3 ho).1;have hi2:Xi cx.floor stm st':=Xi.same p1 p2 fun ho=>by grind
  refine ⟨(hi1.trans fU).trans hi2,fun hk=> ?_,fun ho hl hk b hb hn=> ?_,fun ho hk b hb hn=> ?_,fun hk hg=> ?_,fun d hd=> ?_,fun ho t ht=> ?_,fun ho ρ a w ev hsz hev hgr hr eB K Q hK=> ?_,fun ho hk ρ a w ev mem next hsz hev hgr hr eB hag K Q hK=> ?_⟩
  .grind
  .have ho1:st1.ob=true:=fU.ob (by grind);have eO:st1.eval=st.eval:=by
    funext y
    cases y with
    | tmp t=>exact (w3 ho1).2 t
    | _=>rfl
   grind
  .have ho1:st1.ob=true:=fU.ob (by grind);have eO:st1.eval=st.eval:=by
    funext y
    cases y with
    | tmp t=>exact (w3 ho1).2 t
    | _=>rfl
   grind
  .grind [Qf,HN]
  .grind
  .have ho1:st1.ob=true:=fU.ob (by grind);rw [<-(w3 ho1).2 t];show T.get .undef st'.env t=T.get .undef st1.env t
   grind [T.get_set]
  .have ho1:st1.ob=true:=fU.ob (by grind);have eO:=(w3 ho1).2;have fR: ∀y,st1.eval y=st.eval y:=fun y=>by cases y <;> first | rfl | exact eO _
   rw [Un hw ho1 hsz hgr,AG rfl];refine ((hdo ho).does ρ a w ev (fun y hy=>by grind) hr (by grind)).wp2 fun ρ' u w' hpost eE=> ?_;have he:=hpost.ev;rw [w1,w2] at he;refine hK ρ' u w' (fun d hd=>by rw [fN d hd];exact hpost.val) (by rw [p1,p2];exact hpost.rel) (by grind) fun b ab l k1 k2 k3=> ?_;have hr':Qn ρ st1.eval a.eval x.2.op:=fun y hy=>by rw [fR y,<-hev y hy];exact hr y hy
   have e1:st1.eval=st.eval:=funext fR
   grind [w9t]
  .have ho1:st1.ob=true:=fU.ob (by grind);have eO:=(w3 ho1).2;have fR: ∀y,st1.eval y=st.eval y:=fun y=>by cases y <;> first | rfl | exact eO _
   rw [Un hw ho1 hsz hgr,AG rfl];obtain ⟨u,eE,hu⟩:=(hdo ho).calm hk ρ a w ev mem next (fun y hy=>by grind) hr eB (fun t y b ab q1 q2 q3=>hag t y b ab q1 q2 (by grind))
   unfold Oper.wp;rw [eE];exact hK u fun d hd=>by grind
 .rename_i st1 hw;obtain ⟨w1,w2,w3⟩:=Wr hw;obtain ⟨p1,p2,p3,p4⟩:=Vp h;have fN: ∀d,x.2.dst=some d->st'.tmp d=.tup []:=fun d hd=>by
   rcases p4 with ⟨e,_⟩ | ⟨d',e,_,he⟩
   .grind
   .rw [hd] at e;obtain rfl:=Ag e;show T.get .undef st'.env d=.tup [];rw [he,T.get_set,AG rfl]
  refine ⟨Xi.same (p1.trans w1) (p2.trans w2) fun ho=>(w3 (by grind)).1,fun _=>⟨p1.trans w1,p2.trans w2⟩,fun _ _ _ b _ _=>by rw [p1,w1],fun _ _ b _ _=>by rw [p1,w1],fun hk hg=> ?_,fun d hd=> ?_,fun ho t ht=> ?_,fun ho ρ a w ev hsz hev hgr hr eB K Q hK=> ?_,fun ho hk ρ a w ev mem next hsz hev hgr hr eB hag K Q hK=> ?_⟩
  .grind [Qf,HN]
  .grind
  .rw [<-(w3 (by grind)).2 t];show T.get .undef st'.env t=T.get .undef st1.env t
   grind [T.get_set]
  .have ho1:st1.ob=true:=by grind
   rw [Un hw ho1 hsz hgr,Az (by simp)];refine hK ρ undef w (fun d hd=>by rw [fN d hd];exact .tup [] #[] rfl fun i h1 _=>by simp at h1) ?_ ?_ fun b ab l _ k2 k3=>eB.blk b l ab k3 k2
   .grind
   .rw [p1,p2,w1,w2];exact Ev.refl _ _ _ _ _ eB.dom
  .have ho1:st1.ob=true:=by grind
   rw [Un hw ho1 hsz hgr,Az (by simp)];exact hK undef fun d hd=>by rw [fN d hd];exact .tup [] #[] rfl fun i h1 _=>by simp at h1
def I9 (D:List Deferred) (ρ:B9) (cx:CL) (st st':St) (w:World):Exit->Act->World->Prop:=fun e a' w'=>
 e=.normal /\a'.defers=D/\ ∃ρ',Vg ρ' st'.env cx.n a'.tmps/\CB ρ' st'.mem st'.next w'/\Ev ρ ρ' cx.floor st.mem st.next st'.mem st'.next w w'
def YQ (ρ:B9) (k:Nat) (o:Obj):B9:=⟨ρ.f,fun j=>if j=k then some o else ρ.fz j,ρ.lp⟩
theorem x2w {k:Nat} {o:Obj} (h:ρ.fz k=none):ρ.le (YQ ρ k o):=
 ⟨fun _ _ e=>e,fun j o' e=>by
  show (if j=k then some o else ρ.fz j)=some o'
  grind,fun _ _ e=>e⟩
theorem CB.froze {mem:CE} {next:Nat} {w:World} (h:CB ρ mem next w) (vs:Array Value) (el:TypeId):
  CB (YQ ρ w.heap.size (.cells vs el)) mem next {w with heap:=w.heap.push (.cells vs el)}:=by
 have hle:=x2w (o:=.cells vs el) (h.hold w.heap.size (Aj _));have push: ∀k,k<w.heap.size->(w.heap.push (.cells vs el))[k]? =w.heap[k]? :=fun k hk=>by
  grind
 refine ⟨h.dom,h.inj,fun b l ab e hm=> ?_,fun k o e=> ?_,fun b l e hs=> ?_,fun b l e=> ?_,h.bd,h.ldom.1,h.ldom.2.mono hle.2.1⟩
 .exact (h.blk b l ab e hm).world hle (push _ (h.real b l e))
 .have e:(if k=w.heap.size then some (.cells vs el) else ρ.fz k)=some o:=e;show (w.heap.push (.cells vs el))[k]? =some o;by_cases hk:k=w.heap.size
  .grind
  .rw [Az hk] at e;have:=h.old k o e
   grind
 .have:=h.real b l e;show (if l.blk=w.heap.size then _ else ρ.fz l.blk)=none;rw [Az (by omega)];exact h.sep b l e hs
 .have:=h.real b l e
  grind
theorem Ev.froze {mem:CE} {next:Nat} {w:World} (h:CB ρ mem next w) (floor:Nat) (m:CE) (vs:Array Value) (el:TypeId):
  Ev ρ (YQ ρ w.heap.size (.cells vs el)) floor m next m next w {w with heap:=w.heap.push (.cells vs el)}:=by
 have hle:=x2w (o:=.cells vs el) (h.hold w.heap.size (Aj _));refine ⟨hle,fun _ _=>rfl,Aj _,fun _ _ _ _ _ q=>q,fun k o q _=> ?_,fun b l hb hl=> ?_,?_,rfl,rfl,rfl,fun k hk=> ?_⟩
 .grind
 .have:=h.dom b l hl;omega
 .grind
 .show (if k=w.heap.size then _ else ρ.fz k)=ρ.fz k
  grind
theorem w3u {w:World} {t:TypeId} {len:Nat} {ps:List (Nat×B5)} {qs:List (Nat×Value)} {v:B5} (hb:j6h P t len ps=some v) (hp:Ih ρ ps qs) (hf:ρ.fz w.heap.size=none):
  ∃u vs el,(Instr.buildSlice t len qs.toArray).run P w=.ok u {w with heap:=w.heap.push (.cells vs el)}/\Zn (YQ ρ w.heap.size (.cells vs el)) v u:=by
 unfold j6h at hb;split at hb
 .rename_i e hu;split at hb
  .rename_i i zero hi hz;obtain ⟨hc,hb⟩:=Ze hb;simp only [Ad] at hc;obtain ⟨⟨hl1,hs1⟩,hle,hzl⟩:=hc;have hl1:=Al hl1;have hs1:=Al hs1;have hle:=Al hle;have hzl:=Ai hzl;split at hb
   .rename_i cells eH;obtain ⟨hc,hb⟩:=Ze hb;simp only [Ad] at hc;obtain ⟨hn,hpf⟩:=hc;have hn:=Ai hn;obtain rfl:=Ag hb;obtain ⟨_,z,_,_,hzr,hzv⟩:=Ws (ρ:=ρ) hz;have fJ:=QG hzr len (len*i.size) (by rw [hzl]);obtain ⟨arr,h1,h2⟩:=Pw eH fJ hp;have hsz:arr.size=len*i.size:=(by rw [<-h2.1,hn]);have hgt': ¬2 ^ 24<len*i.size:=(by omega);have fM:0<len*i.size:=Nat.mul_pos (by omega) (by omega);have h0: ¬len*i.size=0:=(by omega);refine ⟨.slice (some ⟨w.heap.size,0,none⟩) len len,arr,e,?_,?_⟩
    .have hsz0: ¬i.size=0:=(by omega);simp [Instr.buildSlice,run_underlying hu,Zh hi,h0,hsz0,hzv,h1,newRow,hgt']
    .have hin: ∀a b,a<len->b<i.size->a*i.size+b<cells.length:=fun a b ha hb=>by
      have:(a+1)*i.size<=len*i.size:=AD _ ha
      grind
     have eK: ∀a,a<len->((cells.drop (a*i.size)).take i.size).length =i.size:=fun a ha=>by
      have:(a+1)*i.size<=len*i.size:=AD _ ha
      grind
     refine .dat len _ w.heap.size 0 i.size len (fun a b=>arr.getD (a*i.size+b) undef) (Aj _) (fun a ha=>eK a ha) (fun a b ha hb=> ?_) (fun a b ha hb=> ?_)
     .have hb':b<i.size:=(by grind);have h3:=hin a b ha hb';have e1:((cells.drop (a*i.size)).take i.size)[b]=cells[a*i.size+b]:=by
       grind
      rw [e1];have h4:a*i.size+b<arr.size:=(by grind);have e2:arr.getD (a*i.size+b) undef=arr[a*i.size+b]:=(by simp [h4]);rw [e2];have h5:=Ky 6 _ _ (Ax.1 hpf _ (AL h3)) (h2.2 _ h3 h4);exact h5.mono (x2w (o:=.cells arr e) hf).bare
     .have h3:=hin a b ha hb;have h4:a*i.size+b<arr.size:=(by grind);refine ⟨arr,e,(0,0),?_,?_⟩
      .show (if w.heap.size=w.heap.size then some (Obj.cells arr e) else _)=_
       grind
      .simp [h4]
   .cases hb
  .cases hb
 .cases hb
structure XW (S:B7) (z:Nat) (P:Program) (ops:Array Oper) (cx:CL) (x:Bool×Oper) (st st':St):Prop where
 inv:Xi cx.floor st st'
 stay:(Xn z x.2.op=.pure \/Xn z x.2.op=.read \/Xn z x.2.op=.lit)->st'.mem=st.mem/\st'.next=st.next
 lift:st'.ob=true->x.1=true->Xn z x.2.op=.call -> ∀b,b<st.next->EP S x.2.op st.eval≠some b->Yi st'.mem b=Yi st.mem b
 foot:st'.ob=true->Xn z x.2.op=.chain -> ∀b,b<st.next->Dn x.2.op st.eval≠some b->Yi st'.mem b=Yi st.mem b
 fresh:st'.ob=true->(Xn z x.2.op=.alloc \/Xn z x.2.op=.birth)->x.2.guard=none-> ∃cells ty,st'.mem=Wm st.mem st.next (some ⟨cells,ty,none⟩)/\st'.next=st.next+1/\
  ∀(ρ:B9) (a:Act) (w:World) (ev:Operand->B5),(∀y,y∈x.2.op.operands->ev y=st.eval y)->Qn ρ ev a.eval x.2.op->
   ∃u vs el,el=ty/\Ua ρ cells vs/\(execOp a.eval x.2).run P w=.ok (.value u) {w with heap:=w.heap.push (.cells vs el)}/\ ∀ρ':B9,ρ' st.next=some ⟨w.heap.size,0,cells.length,vs.size⟩-> ∀d,x.2.dst=some d->Zn ρ' (st'.tmp d) u
 slot: ∀d,x.2.dst=some d->d<cx.n
 other:st'.ob=true-> ∀t,x.2.dst≠some t->st'.tmp t=st.tmp t
 does:st'.ob=true->(Xn z x.2.op=.chain \/Xn z x.2.op=.call)-> ∀(ρ:B9) (a:Act) (w:World) (ev:Operand->B5),a.tmps.size=cx.n->(∀y,y∈x.2.op.operands->ev y=st.eval y)->(∀d,Jj ops x.2=some d->Zn ρ (st.tmp d) (a.tmps.getD d undef))->Qn ρ ev a.eval x.2.op->CB ρ st.mem st.next w->
  ∀(K:Act->World->Prop) (Q:Exit->Act->World->Prop),(∀ρ' u w',(∀d,x.2.dst=some d->Zn ρ' (st'.tmp d) u)->CB ρ' st'.mem st'.next w'->Ev ρ ρ' cx.floor st.mem st.next st'.mem st'.next w w'->(∀b ab l,EQ x.2.op st.eval st.mem=some b->Yi st.mem b=some ab->ρ b=some l->Vv ρ w' ab l)->K (a.put x.2.dst u) w')->
   if Region.wanted x.2 (yielded ops a.tmps) then x.2.wp P a w K Q else K (a.put x.2.dst undef) w
 calm:st'.ob=true->(Xn z x.2.op=.pure \/Xn z x.2.op=.read)-> ∀(ρ:B9) (a:Act) (w:World) (ev:Operand->B5) (mem:CE) (next:Nat),a.tmps.size=cx.n->(∀y,y∈x.2.op.operands->ev y=st.eval y)->(∀d,Jj ops x.2=some d->Zn ρ (st.tmp d) (a.tmps.getD d undef))->Qn ρ ev a.eval x.2.op->CB ρ mem next w->
  (∀t y b ab,x.2.op=.load t y->ES x.2.op ev=some b->Yi st.mem b=some ab->Yi mem b=some ab)-> ∀(K:Act->World->Prop) (Q:Exit->Act->World->Prop),(∀u,(∀d,x.2.dst=some d->Zn ρ (st'.tmp d) u)->K (a.put x.2.dst u) w)->
   if Region.wanted x.2 (yielded ops a.tmps) then x.2.wp P a w K Q else K (a.put x.2.dst undef) w
 lit:st'.ob=true->Xn z x.2.op=.lit -> ∀(ρ:B9) (a:Act) (w:World) (ev:Operand->B5) (mem:CE) (next:Nat),a.tmps.size=cx.n->(∀y,y∈x.2.op.operands->ev y=st.eval y)->(∀d,Jj ops x.2=some d->Zn ρ (st.tmp d) (a.tmps.getD d undef))->Qn ρ ev a.eval x.2.op->CB ρ mem next w->
  ∀(K:Act->World->Prop) (Q:Exit->Act->World->Prop),(∀ρ' u w',(∀d,x.2.dst=some d->Zn ρ' (st'.tmp d) u)->CB ρ' mem next w'->(∀b,ρ' b=ρ b)->(∀floor m,Ev ρ ρ' floor m next m next w w')->K (a.put x.2.dst u) w')->
   if Region.wanted x.2 (yielded ops a.tmps) then x.2.wp P a w K Q else K (a.put x.2.dst undef) w
theorem v5r {z:Nat} {op:Op} (h:Mb z op=false) (h2:isBirth z op=false):Xn z op=Xc op:=by unfold Xn;grind
theorem v7t {o:Oper} {t:TypeId} {z:zx} (ho:o.op=.alloc t) (hz:EJ P t=some z) (a:Act) (w:World):
  ∃vs:Array Value,Ua ρ z vs/\(execOp a.eval o).run P w=.ok (.value (.pointer (some ⟨w.heap.size,0,none⟩))) {w with heap:=w.heap.push (.cells vs t)}:=by
 obtain ⟨dst,op,type,pos,after,guard⟩:=o;simp only at ho;subst ho;obtain ⟨_,zv,_,_,hzr,hzv⟩:=Ws (ρ:=ρ) hz;exact ⟨zv.cells,hzr,by simp_all [execOp,Instr.alloc,newVar,newRow]⟩
theorem x4j {w:World} {t:TypeId} {len:Nat} {ps:List (Nat×B5)} {qs:List (Nat×Value)} {cells:zx} {e:TypeId} {sz:Nat} (hb:w4a P t len ps=some (cells,e,sz)) (hp:Ih ρ ps qs):
  ∃vs el,el=e/\Ua ρ cells vs/\(Instr.buildSlice t len qs.toArray).run P w=.ok (.slice (some ⟨w.heap.size,0,none⟩) len len) {w with heap:=w.heap.push (.cells vs el)}/\cells.length=len*sz/\vs.size=len*sz:=by
 unfold w4a at hb;split at hb
 .rename_i e hu;split at hb
  .rename_i i zero hi hz;obtain ⟨hc,hb⟩:=Ze hb;simp only [Ad] at hc;obtain ⟨⟨hl1,hs1⟩,hle,hzl⟩:=hc;have hl1:=Al hl1;have hs1:=Al hs1;have hle:=Al hle;have hzl:=Ai hzl;split at hb
   .rename_i cells eH;obtain ⟨hn,hb⟩:=Ze hb;have hn:=Ai hn;simp only [Ae,Ac] at hb;obtain ⟨rfl,rfl,rfl⟩:=hb;obtain ⟨_,z,_,_,hzr,hzv⟩:=Ws (ρ:=ρ) hz;have fJ:=QG hzr len (len*i.size) (by rw [hzl]);obtain ⟨arr,h1,h2⟩:=Pw eH fJ hp;have hsz:arr.size=len*i.size:=(by rw [<-h2.1,hn]);have hgt': ¬2 ^ 24<len*i.size:=(by omega);have fM:0<len*i.size:=Nat.mul_pos (by omega) (by omega);have h0: ¬len*i.size=0:=(by omega);have hsz0: ¬i.size=0:=(by omega);exact ⟨arr,e,rfl,h2,by simp [Instr.buildSlice,run_underlying hu,Zh hi,h0,hsz0,hzv,h1,newRow,hgt'],hn,hsz⟩
   .cases hb
  .cases hb
 .cases hb
theorem x1j (op:Op):Xc op≠ .lit :=by
 cases op with
 | call c=>
  obtain ⟨callee,args,argTypes⟩:=c;cases callee with
  | builtin b=>cases b <;> exact fun h=>by cases h
  | value f=>exact fun h=>by cases h
  | invoke r m=>exact fun h=>by cases h
 | _=>exact fun h=>by cases h
theorem y3q (op:Op):Xc op≠ .birth :=by
 cases op with
 | call c=>
  obtain ⟨callee,args,argTypes⟩:=c;cases callee with
  | builtin b=>cases b <;> exact fun h=>by cases h
  | value f=>exact fun h=>by cases h
  | invoke r m=>exact fun h=>by cases h
 | _=>exact fun h=>by cases h
theorem w7e {S:B7} {R:CF} (hN:EC P) (hS:Zv P S) (hRI:E9 R) (hR:GY P R) {z:Nat} {ops:Array Oper} {x:Bool×Oper} {cx:CL} {st st':St} (hcx:cx.floor<=st.next) (h:M7 z P S R ops cx x st=some st'):
  XW S z P ops cx x st st':=by
 unfold M7 at h;cases hz:Mb z x.2.op with
 | false=>
  rw [hz,Ab] at h;cases hz2:isBirth z x.2.op with
  | false=>
   rw [hz2,Ab] at h;have s:=x0u hN hS hRI hR hcx h;have hk:=v5r hz hz2;refine ⟨s.inv,fun k=> ?_,?_,?_,?_,s.slot,s.other,fun ho _=>s.does ho,fun ho k=>s.calm ho (by grind),fun _ k=> ?_⟩
   .rw [hk] at k;rcases k with k | k | k
    .exact s.stay (.inl k)
    .exact s.stay (.inr k)
    .exact absurd k (x1j _)
   .rw [hk];exact s.lift
   .rw [hk];exact s.foot
   .intro _ k hg;have k:Xc x.2.op=.alloc :=by
     grind [y3q]
    obtain ⟨t,z0,e1,e2,e3,e4,e5⟩:=s.alloc k hg;refine ⟨z0,t,e3,e4,fun ρ a w ev _ _=> ?_⟩;obtain ⟨vs,hvs,eE⟩:=v7t (P:=P) (ρ:=ρ) e1 e2 a w;exact ⟨_,vs,t,rfl,hvs,eE,fun ρ' hρ d hd=>by rw [e5 d hd];exact .ptr _ 0 _ hρ⟩
   grind [x1j]
  | true=>
   rw [hz2,Af] at h;have hk:Xn z x.2.op=.birth :=by unfold Xn;grind
   obtain ⟨lf,o⟩:=x;obtain ⟨dst,op,type,pos,after,guard⟩:=o;simp only at h hz hz2 hk ⊢;cases op with
   | buildSlice t len parts=>
    split at h
    .cases h
    .rename_i st1 hw;obtain ⟨w1,w2,w3⟩:=Wr hw;unfold ZK at h;simp only at h;split at h
     .rename_i cells e sz hv;obtain ⟨p1,p2,p3,p4⟩:=Vp h;have fN: ∀d,dst=some d->st'.tmp d=.sl st1.next 0 len (bif cx.sym then .un sz else .ex len):=fun d hd=>by
       rcases p4 with ⟨e,_⟩ | ⟨d',e,_,he⟩
       .grind
       .rw [hd] at e;obtain rfl:=Ag e;show T.get .undef st'.env d=_;rw [he,T.get_set,AG rfl]
      have hi1:Xi cx.floor st st1:=Xi.same w1 w2 fun ho=>(w3 ho).1;have hi2:Xi cx.floor (Cg st1 cells e) st':=Xi.same p1 p2 fun ho=>by grind
      obtain ⟨env1,FL,next1,orc1,ob1⟩:=st1;simp only [Cg] at p1 p2 p3 p4;simp only at w1 w2 fN;refine ⟨(hi1.trans (Xi.new _ _ _)).trans hi2,(fun k=>by grind),(fun _ _ k=>by grind),(fun _ k=>by grind),fun ho _ _=> ?_,fun d hd=> ?_,fun ho t ht=> ?_,(fun _ k=>by grind),(fun _ k=>by grind),(fun _ k=>by grind)⟩
      .have ho1:ob1=true:=(by grind);have eO:=(w3 ho1).2;refine ⟨cells,e,by grind,by rw [p2,w2],fun ρ a w ev hev hr=> ?_⟩;have fR: ∀y,St.eval ⟨env1,FL,next1,orc1,ob1⟩ y=st.eval y:=fun y=>by cases y <;> first | rfl | exact eO _
       have hpr:Ih ρ (parts.toList.map fun p=>(p.1,St.eval ⟨env1,FL,next1,orc1,ob1⟩ p.2)) (parts.toList.map fun p=>(p.1,a.eval p.2)):=U5 parts.toList fun p hp=>by have hm:p.2∈(Op.buildSlice t len parts).operands :=(by grind [Op.operands]);rw [fR p.2,<-hev p.2 hm];exact hr p.2 hm
       obtain ⟨vs,el,hel,hvs,eE,hn1,hn2⟩:=x4j (w:=w) hv hpr;have hpa:(parts.map fun (i,x)=>(i,a.eval x))=(parts.toList.map fun p=>(p.1,a.eval p.2)).toArray :=by
        grind
       refine ⟨.slice (some ⟨w.heap.size,0,none⟩) len len,vs,el,hel,hvs,by simp [execOp,hpa,eE],fun ρ' hρ d hd=> ?_⟩;rw [fN d hd,w2];refine .sl _ 0 len _ ⟨w.heap.size,0,cells.length,vs.size⟩ len hρ ?_ (Aj _);cases cx.sym with
       | true=>exact ⟨by grind,by grind⟩
       | false=>exact rfl
      .grind
      .have ho1:ob1=true:=(by grind);rw [<-(w3 ho1).2 t];show T.get .undef st'.env t=T.get .undef env1 t
       grind [T.get_set]
     .cases h
    .rename_i st1 hw;obtain ⟨w1,w2,w3⟩:=Wr hw;obtain ⟨p1,p2,p3,p4⟩:=Vp h;have hi1:Xi cx.floor st st1:=Xi.same w1 w2 fun ho=>(w3 ho).1;have hi2:Xi cx.floor st1 st':=Xi.same p1 p2 fun ho=>by grind
     refine ⟨hi1.trans hi2,(fun k=>by grind),(fun _ _ k=>by grind),(fun _ k=>by grind),fun _ _ hg=> ?_,fun d hd=> ?_,fun ho t ht=> ?_,(fun _ k=>by grind),(fun _ k=>by grind),(fun _ k=>by grind)⟩
     .grind [Qf,HN]
     .grind
     .have ho1:st1.ob=true:=(by grind);rw [<-(w3 ho1).2 t];show T.get .undef st'.env t=T.get .undef st1.env t
      grind [T.get_set]
   | _=>cases hz2
 | true=>
  rw [hz,Af] at h;have hk:Xn z x.2.op=.lit :=by unfold Xn;rw [hz];rfl
  obtain ⟨lf,o⟩:=x;obtain ⟨dst,op,type,pos,after,guard⟩:=o;simp only at h hz hk ⊢;cases op with
  | buildSlice t len parts=>
   split at h
   .cases h
   .rename_i st1 hw;obtain ⟨w1,w2,w3⟩:=Wr hw;unfold w1o at h;simp only at h;split at h
    .rename_i v hv;obtain ⟨p1,p2,p3,p4⟩:=Vp h;have fN: ∀d,dst=some d->st'.tmp d=v:=fun d hd=>by
      rcases p4 with ⟨e,_⟩ | ⟨d',e,_,he⟩
      .grind
      .rw [hd] at e;obtain rfl:=Ag e;show T.get .undef st'.env d=v;rw [he,T.get_set,AG rfl]
     have hi1:Xi cx.floor st st1:=Xi.same w1 w2 fun ho=>(w3 ho).1;have hi2:Xi cx.floor st1 st':=Xi.same p1 p2 fun ho=>by grind
     refine ⟨hi1.trans hi2,fun _=>⟨p1.trans w1,p2.trans w2⟩,(fun _ _ k=>by grind),(fun _ k=>by grind),(fun _ k=>by grind),fun d hd=> ?_,fun ho t ht=> ?_,(fun _ k=>by grind),(fun _ k=>by grind),fun ho _ ρ a w ev mem next hsz hev hgr hr eB K Q hK=> ?_⟩
     .grind
     .have ho1:st1.ob=true:=(by grind);rw [<-(w3 ho1).2 t];show T.get .undef st'.env t=T.get .undef st1.env t
      grind [T.get_set]
     .have ho1:st1.ob=true:=(by grind);have eO:=(w3 ho1).2;have fR: ∀y,st1.eval y=st.eval y:=fun y=>by cases y <;> first | rfl | exact eO _
      rw [Un hw ho1 hsz hgr,AG rfl];have hpr:Ih ρ (parts.toList.map fun p=>(p.1,st1.eval p.2)) (parts.toList.map fun p=>(p.1,a.eval p.2)):=U5 parts.toList fun p hp=>by have hm:p.2∈(Op.buildSlice t len parts).operands :=(by grind [Op.operands]);rw [fR p.2,<-hev p.2 hm];exact hr p.2 hm
      obtain ⟨u,vs,el,eE,hu⟩:=w3u hv hpr (eB.hold w.heap.size (Aj _));have:(parts.map fun (i,x)=>(i,a.eval x))=(parts.toList.map fun p=>(p.1,a.eval p.2)).toArray :=by
       grind
      unfold Oper.wp;have hrun':(execOp a.eval ⟨dst,.buildSlice t len parts,type,pos,after,guard⟩).run P w=.ok (.value u) {w with heap:=w.heap.push (.cells vs el)}:=by simp [execOp,this,eE]
      rw [hrun'];exact hK _ u _ (fun d hd=>by grind) (eB.froze vs el) (fun _=>rfl) fun floor m=>Ev.froze eB floor m vs el
    .cases h
   .rename_i st1 hw;obtain ⟨w1,w2,w3⟩:=Wr hw;obtain ⟨p1,p2,p3,p4⟩:=Vp h;have fN: ∀d,dst=some d->st'.tmp d=.tup []:=fun d hd=>by
     rcases p4 with ⟨e,_⟩ | ⟨d',e,_,he⟩
     .grind
     .rw [hd] at e;obtain rfl:=Ag e;show T.get .undef st'.env d=_;rw [he,T.get_set,AG rfl]
    have hi1:Xi cx.floor st st1:=Xi.same w1 w2 fun ho=>(w3 ho).1;have hi2:Xi cx.floor st1 st':=Xi.same p1 p2 fun ho=>by grind
    refine ⟨hi1.trans hi2,fun _=>⟨p1.trans w1,p2.trans w2⟩,(fun _ _ k=>by grind),(fun _ k=>by grind),(fun _ k=>by grind),fun d hd=> ?_,fun ho t ht=> ?_,(fun _ k=>by grind),(fun _ k=>by grind),fun ho _ ρ a w ev mem next hsz hev hgr hr eB K Q hK=> ?_⟩
    .grind
    .have ho1:st1.ob=true:=(by grind);rw [<-(w3 ho1).2 t];show T.get .undef st'.env t=T.get .undef st1.env t
     grind [T.get_set]
    .have ho1:st1.ob=true:=(by grind);rw [Un hw ho1 hsz hgr,Az Bool.false_ne_true];exact hK ρ undef w (fun d hd=>by rw [fN d hd];exact .tup [] #[] rfl fun i h1 _=>by simp at h1) eB (fun _=>rfl) fun floor m=>Ev.refl _ _ _ _ _ eB.dom
  | _=>cases hz
end
section
variable {ops:Array Oper}
def HK (ops:Array Oper) (S:Nat->Bool):Prop:= ∀j o,ops[j]? =some o->S j=true-> ∀e∈o.after.toList,Region.binds .any e=true->S e.on=true
def HR (S:Nat->Bool) (o:Oper):Prop:= ∀e∈o.after.toList,Region.binds .any e=true->S e.on=true
def Is (ops:Array Oper) (i:Nat) (o:Oper):Prop:= ∀S,HK ops S->HR S o->S i=true
theorem x7l (acc:zw) (i:Nat): ∀(es:List Edge) (s:Nat),(es.foldl (fun s e=>bif Region.binds .any e then s||| (2 ^ e.on)||| acc.getD e.on 0 else s) s).testBit i=true->
  s.testBit i=true\/ ∃e∈es,Region.binds .any e=true/\(e.on=i\/(acc.getD e.on 0).testBit i=true)
 | [],s,h=>.inl h
 | e::es,s,h=>by
  simp only [List.foldl_cons] at h;rcases x7l acc i es _ h with h | ⟨e',he',h1,h2⟩;all_goals grind
theorem x7r (fV: ∀(j:Nat) o,ops[j]? =some o-> ∀e∈o.after.toList,Region.binds .any e=true->e.on<j): ∀(l:List Oper) (acc:zw),acc.length+l.length=ops.size->(∀k,l[k]? =ops[acc.length+k]?)->
  (∀k o,k<acc.length->ops[k]? =some o-> ∀i,(acc.getD k 0).testBit i=true->i<k/\Is ops i o)->
  ∀k o,ops[k]? =some o-> ∀i,((Ez l acc).getD k 0).testBit i=true->i<k/\Is ops i o
 | [],acc,eC,_,hacc,k,o,ho,i,h=>by have hk:k<ops.size:=(AB.1 ho).1;simp at eC;exact hacc k o (by omega) ho i h
 | x::l,acc,eC,hl,hacc,k,o,ho,i,h=>by
  unfold Ez at h;refine x7r fV l (acc++[x.after.toList.foldl (fun s e=>bif Region.binds .any e then s||| (2 ^ e.on)||| acc.getD e.on 0 else s) 0]) (by grind) (fun k=>by
   have:=hl (k+1)
   simpa [AN,Nat.add_comm 1 k] using this) (fun k' o' hk' ho' i' hi'=> ?_) k o ho i h
  by_cases hlt:k'<acc.length
  .refine hacc k' o' hlt ho' i' ?_
   grind
  .have hk2:k'=acc.length:=by grind
   subst hk2;have hx:ops[acc.length]? =some x:=by simpa using (hl 0).symm
   rw [hx] at ho';obtain rfl:=Ag ho';have hg:(acc++[x.after.toList.foldl (fun s e=>bif Region.binds .any e then s||| (2 ^ e.on)||| acc.getD e.on 0 else s) 0]).getD acc.length 0=x.after.toList.foldl (fun s e=>bif Region.binds .any e then s||| (2 ^ e.on)||| acc.getD e.on 0 else s) 0:=by
    grind
   rw [hg] at hi';rcases x7l acc i' _ _ hi' with h0 | ⟨e,he,hb,h1⟩
   .simp at h0
   .have hlt':=fV _ _ hx e he hb;rcases h1 with rfl | h1
    .exact ⟨hlt',fun S _ hr=>hr e he hb⟩
    .have ho2:ops[e.on]? =some (ops[e.on]'(by grind)):=(by simp);obtain ⟨q1,q2⟩:=hacc e.on _ hlt' ho2 i' h1;exact ⟨by omega,fun S hc hr=>q2 S hc fun e' he' hb'=>hc e.on _ ho2 (hr e he hb) e' he' hb'⟩
theorem x3q {z:Nat} {op:Op} {k:FX} (hk:k≠ .lit) (hb:k≠ .birth):Xn z op=k↔Xc op=k/\Mb z op=false/\isBirth z op=false:=by
 grind [Xn]
theorem w2c {z:Nat} {op:Op} (h:Mb z op=true):Xc op=.chain :=by
 cases op <;> first | rfl | (cases h;done)
theorem x3r {z:Nat} {op:Op} (h:isBirth z op=true):Xc op=.chain :=by
 cases op <;> first | rfl | (cases h;done)
theorem x6z {z:Nat} {op:Op} {k:FX} (hk:k≠ .lit) (hb:k≠ .birth) (hc:k≠ .chain):Xn z op=k↔Xc op=k:=by
 rw [x3q hk hb]
 grind [w2c,x3r]
theorem U4 {z:Nat} {op:Op}:Xn z op=.alloc ↔Xc op=.alloc :=x6z (fun h=>by cases h) (fun h=>by cases h) fun h=>by cases h
theorem x1i {z:Nat} {op:Op}:Xn z op=.read ↔Xc op=.read :=x6z (fun h=>by cases h) (fun h=>by cases h) fun h=>by cases h
theorem y7q {z:Nat} {op:Op} (h:Xn z op=.birth):isBirth z op=true:=by
 grind [Xn,y3q]
structure v8f (z:Nat) (ops:Array Oper):Prop where
 ord: ∀(j:Nat) o,ops[j]? =some o-> ∀e∈o.after.toList,Region.binds .any e=true->e.on<j
 guard: ∀(j:Nat) o,ops[j]? =some o->(Xn z o.op=.alloc \/Xn z o.op=.birth)->o.guard=none
 bits: ∀(j:Nat) o,ops[j]? =some o-> ∀i,((Ez ops.toList []).getD j 0).testBit i=true->i<j/\Is ops i o
 pair: ∀(i j:Nat) p o,i<j->ops[i]? =some p->ops[j]? =some o->Is ops i o\/(p.apart ops o=true/\w1u (Xn z p.op) (Xn z o.op)=true/\(Xn z o.op=.read ->Ds ops i=true)/\(Xn z p.op=.read ->Ds ops j=true))
 dst: ∀(i j:Nat) p o d,i<j->ops[i]? =some p->ops[j]? =some o->p.dst=some d->o.dst≠some d
 alloc: ∀(i j:Nat) p o,i<j->ops[i]? =some p->ops[j]? =some o->Xn z o.op=.alloc ->p.apart ops o=true
 birth: ∀(i j:Nat) p o,i<j->ops[i]? =some p->ops[j]? =some o->Xn z o.op=.birth -> ¬(Xn z p.op=.chain \/Xn z p.op=.call)
theorem YT {z:Nat} (h:MX z ops=true):v8f z ops:=by
 have hj: ∀(j:Nat) o,ops[j]? =some o->(o.after.toList.all (fun e=> !Region.binds .any e||Nat.ble (e.on+1) j)=true/\(!(Xc o.op == .alloc ||isBirth z o.op)||o.guard.isNone)=true)/\ ∀(i:Nat) p,i<j->ops[i]? =some p->XN z ops i j p o=true:=by
  intro j o ho;have hlt:j<ops.size:=(AB.1 ho).1;have:=Ax.1 h j (A0.2 hlt)
  grind
 have ord: ∀(j:Nat) o,ops[j]? =some o-> ∀e∈o.after.toList,Region.binds .any e=true->e.on<j:=by intro j o ho e he hb;have:=Ax.1 (hj j o ho).1.1 e he;rw [hb] at this;exact Al (by grind)
 have bits:=x7r ord ops.toList [] (by simp) (fun k=>by simp) (fun k o hk=>by simp at hk);refine ⟨ord,fun j o ho hk=> ?_,fun j o ho i hb=>bits j o ho i hb,fun i j p o hij hp ho=> ?_,fun i j p o d hij hp ho hd=> ?_,fun i j p o hij hp ho hk=> ?_,fun i j p o hij hp ho hk hc=> ?_⟩
 .have:=(hj j o ho).1.2;rcases hk with hk | hk;all_goals simp_all [U4,y7q]
 .have hpo:=(hj j o ho).2 i p hij hp;unfold XN at hpo;simp only [Ad,BD] at hpo;cases hb:((Ez ops.toList []).getD j 0).testBit i with
  | true=>grind
  | false=>
   right;rcases hpo.1.1.1 with h1 | ⟨h1,h2⟩
   .grind
   .have hi:i<ops.size:=(AB.1 hp).1;have hjl:j<ops.size:=(AB.1 ho).1;refine ⟨h1,h2,fun hr=> ?_,fun hr=> ?_⟩
    .unfold Ds;rw [B3];refine ⟨j,A0.2 hjl,?_⟩;rw [ho,Option.any_some,x1i.1 hr,hb];have:Nat.ble (i+1) j=true:=AU hij
     grind
    .unfold Ds;rw [B3];refine ⟨i,A0.2 hi,?_⟩;rw [hp,Option.any_some,x1i.1 hr,hb];have:Nat.ble (i+1) j=true:=AU hij
     grind
 all_goals grind [XN,U4,y7q]
theorem Jr {z:Nat} {i:Nat} {o:Oper} (ho:ops[i]? =some o):isAlloc ops i=true↔Xn z o.op=.alloc :=by
 grind [U4,isAlloc]
theorem y1l (i:Nat):i∈Yq ops↔i<ops.size:=by
 grind [Yq]
theorem Xt :(Yq ops).length =ops.size:=by
 unfold Yq;rw [Ap,<-List.countP_eq_length_filter,<-List.countP_eq_length_filter];have:=List.length_eq_countP_add_countP (isAlloc ops) (l:=List.range ops.size)
 grind
def Ord (ops:Array Oper) (i j:Nat):Prop:=(isAlloc ops i=true/\isAlloc ops j=false)\/(isAlloc ops i=isAlloc ops j/\i<j)
theorem y1k :(Yq ops).Pairwise (Ord ops):=by
 unfold Yq;rw [List.pairwise_append];have hr:(List.range ops.size).Pairwise (· < ·):=List.pairwise_lt_range;refine ⟨?_,?_,?_⟩
 .refine ((hr.filter _).imp_of_mem fun {a b} ha hb h=> ?_);have h1:=(Bz.1 ha).2;have h2:=(Bz.1 hb).2;exact .inr ⟨h1.trans h2.symm,h⟩
 .refine ((hr.filter _).imp_of_mem fun {a b} ha hb h=> ?_);have h1:=(Bz.1 ha).2;have h2:=(Bz.1 hb).2;refine .inr ⟨?_,h⟩
  grind
 .intro a ha b hb;have h1:=(Bz.1 ha).2;have h2:=(Bz.1 hb).2;exact .inl ⟨h1,by grind⟩
theorem x3u {k1 k2:Nat} (h:k1<k2) (h2:k2<(Yq ops).length):Ord ops ((Yq ops)[k1]'(by omega)) (Yq ops)[k2]:=
 BL.1 y1k k1 k2 (by omega) h2 h
end
def Ru (ops:Array Oper) (x y:D3):Prop:=clash x.2.1 y.2.2=true\/clash x.2.2 y.2.1=true->ordered ops x.1 y.1=true
theorem w2m {ops:Array Oper} {x y:D3} (h:XI ops x y=true):Ru ops x y:=by
 intro hc
 grind [XI]
theorem Yl {z:Nat} {P:Program} {S:B7} {R:CF} {ops:Array Oper} {cx:CL}: ∀(l:List (Nat×Bool×Oper)) (acc:List D3) (st st':St),QD z P S R ops cx l acc st=some st'->
  ∃f:Nat->St,f 0=st/\f l.length=st'/\(∀(k:Nat) (h:k<l.length),M7 z P S R ops cx l[k].2 (f k)=some (f (k+1)))/\
   (∀(k:Nat) (h:k<l.length),∀y∈acc,Ru ops (Fo S l[k] (f k).eval) y\/lateF z ops l[k] (f k).eval (f k).mem y=true)/\
   ∀(q k:Nat) (hq:q<k) (h:k<l.length),Ru ops (Fo S l[k] (f k).eval) (Fo S (l[q]'(by omega)) (f q).eval)\/lateF z ops l[k] (f k).eval (f k).mem (Fo S (l[q]'(by omega)) (f q).eval)=true
 | [],acc,st,st',h=>by have h:some st=some st':=h;obtain rfl:=Ag h;exact ⟨fun _=>st,rfl,rfl,fun k h=>by simp at h,fun k h=>by simp at h,fun q k _ h=>by simp at h⟩
 | x::l,acc,st,st',h=>by
  have h:(bif acc.all (fun y=>XI ops (Fo S x st.eval) y||lateF z ops x st.eval st.mem y) then
    match M7 z P S R ops cx x.2 st with
    | some st'=>QD z P S R ops cx l (Fo S x st.eval::acc) st'
    | none=>none
   else none)=some st':=h
  obtain ⟨hacc,h⟩:=Ze h;split at h
  .rename_i st1 h1;obtain ⟨f,f0,fn,fs,fa,fp⟩:=Yl l _ st1 st' h;refine ⟨fun k=>match k with | 0=>st | k+1=>f k,rfl,fn,fun k hk=> ?_,fun k hk y hy=> ?_,fun q k hqk hk=> ?_⟩;all_goals grind [w2m]
  .cases h
theorem x4s {S:B7} {op:Op} (h:Xc op=.chain) (ev:Operand->B5):EP S op ev=Dn op ev:=by
 cases op with
 | call c=>
  obtain ⟨callee,args,argTypes⟩:=c;cases callee with
  | value f=>cases h
  | _=>rfl
 | _=>rfl
theorem Y8 (p q:Nat->Bool) (i:Nat): ∀(n:Nat),(∀k,k≠i->q k=p k)->p i=true->q i=false->i<n->(List.range n).countP q+1=(List.range n).countP p
 | 0,_,_,_,h=>absurd h (AJ _)
 | n+1,hpq,hp,hq,h=>by
  rw [List.range_succ,List.countP_append,List.countP_append];by_cases hi:i<n
  .have:=Y8 p q i n hpq hp hq hi
   grind
  .have hin:i=n:=by omega
   subst hin;have e:(List.range i).countP q=(List.range i).countP p:=List.countP_congr fun k hk=>by
    grind
   grind
section
variable {P:Program}
theorem CB.unborn {ρ:B9} {mem:CE} {next:Nat} {w:World} (h:CB ρ mem next w) (o:Option CA):CB ρ (Wm mem next o) (next+1) w:=by
 have ne: ∀b l,ρ b=some l->b≠next:=fun b l e=>by have:=h.dom b l e;omega
 refine ⟨fun b l e=>by have:=h.dom b l e;omega,fun b b' l l' e e' he hs hs'=> ?_,fun b l ab e hm=> ?_,h.old,fun b l e hs=>h.sep b l e (by rwa [Zw _ _ (ne b l e)] at hs),h.real,fun b hb=>by rw [Zw _ _ (by omega)];exact h.bd b (by omega),⟨fun j l e=>Bm (h.ldom.1 j l e),h.ldom.2⟩⟩
 .rw [Zw _ _ (ne b l e)] at hs;rw [Zw _ _ (ne b' l' e')] at hs';exact h.inj b b' l l' e e' he hs hs'
 .rw [Zw _ _ (ne b l e)] at hm;exact h.blk b l ab e hm
theorem CB.birth {ρ:B9} {mem:CE} {next:Nat} {w:World} (h:CB ρ mem next w) {b:Nat} {cs:zx} {ty:TypeId} (hb:b<next) (hn:ρ b=none) (hm:Yi mem b=some ⟨cs,ty,none⟩) {vs:Array Value} (el:TypeId) (hv:Ua ρ cs vs) (hel:el=ty):
  CB (Uq ρ b ⟨w.heap.size,0,cs.length,vs.size⟩) mem next {w with heap:=w.heap.push (.cells vs el)}:=by
 have hle:=Ip (l:=⟨w.heap.size,0,cs.length,vs.size⟩) hn;have eK: ∀c l,Uq ρ b ⟨w.heap.size,0,cs.length,vs.size⟩ c=some l->(c=b/\l=⟨w.heap.size,0,cs.length,vs.size⟩)\/(c≠b/\ρ c=some l):=fun c l e=>by
  grind [Uc]
 refine ⟨fun c l e=> ?_,fun c c' l l' e e' hbl hs hs'=> ?_,fun c l ab e hc=> ?_,fun k o e=> ?_,fun c l e=> ?_,fun c l e=> ?_,h.bd,h.ldom⟩
 .rcases eK c l e with ⟨rfl,_⟩ | ⟨_,e⟩
  .exact hb
  .exact h.dom c l e
 .rcases eK c l e with ⟨hc,hl⟩ | ⟨hc,e2⟩ <;> rcases eK c' l' e' with ⟨hc',hl'⟩ | ⟨hc',e2'⟩
  .rw [hc,hc']
  .have:=h.real c' l' e2';grind
  .have:=h.real c l e2;grind
  .exact h.inj c c' l l' e2 e2' hbl hs hs'
 .rcases eK c l e with ⟨rfl,rfl⟩ | ⟨_,e⟩
  .rw [hm] at hc;obtain rfl:=Ag hc;have h1:=hv.1;refine .plain ⟨by simp [hel],rfl,by grind,(fun A e=>by cases e),vs,el,by simp,by simp,fun i hi=> ?_⟩;have h2:i<vs.size:=by grind
   exact ⟨vs[i],by grind,(hv.2 i hi h2).mono hle⟩
  .refine (h.blk c l ab e hc).world hle ?_;have:=h.real c l e
   grind
 .have hk:=h.old k o e
  grind
 .intro hs;rcases eK c l e with ⟨rfl,rfl⟩ | ⟨_,e⟩
  .exact h.hold _ (Aj _)
  .exact h.sep c l e hs
 .rcases eK c l e with ⟨rfl,rfl⟩ | ⟨_,e⟩
  .simp
  .have:=h.real c l e;simp;omega
structure DK (S:B7) (z:Nat) (P:Program) (ops:Array Oper) (cx:CL) (st:St) (f:Nat->St):Prop where
 chk:v8f z ops
 f0:f 0=st
 hcx:cx.floor<=st.next
 ob: ∀k,k<=ops.size->(f k).ob =true
 step: ∀(k:Nat) (h:k<(Yq ops).length),XW S z P ops cx (Ds ops (Yq ops)[k],ops.getD (Yq ops)[k] default) (f k) (f (k+1))
 foot: ∀(q k:Nat) (hq:q<k) (h:k<(Yq ops).length),Ru ops (Fo S ((Yq ops)[k],Ds ops (Yq ops)[k],ops.getD (Yq ops)[k] default) (f k).eval) (Fo S ((Yq ops)[q],Ds ops (Yq ops)[q],ops.getD (Yq ops)[q] default) (f q).eval)\/
  lateF z ops ((Yq ops)[k],Ds ops (Yq ops)[k],ops.getD (Yq ops)[k] default) (f k).eval (f k).mem (Fo S ((Yq ops)[q],Ds ops (Yq ops)[q],ops.getD (Yq ops)[q] default) (f q).eval)=true
variable {Sp:B7} {z:Nat} {ops:Array Oper} {cx:CL} {st:St} {f:Nat->St}
def CD (ops:Array Oper) (k:Nat):Nat:=(Yq ops).getD k ops.size
theorem XY {k:Nat} (h:k<ops.size):CD ops k<ops.size:=by
 have hl:k<(Yq ops).length :=by rw [Xt];exact h
 have:CD ops k=(Yq ops)[k]:=by simp [CD,hl]
 rw [this];exact (y1l _).1 (AL hl)
theorem Em {k1 k2:Nat} (h:k1<k2) (h2:k2<ops.size):Ord ops (CD ops k1) (CD ops k2):=by
 grind [Xt,x3u,CD]
theorem j6g {i:Nat} (h:i<ops.size): ∃k,k<ops.size/\CD ops k=i:=by obtain ⟨k,hk,e⟩:=A6 ((y1l (ops:=ops) i).2 h);exact ⟨k,by rw [Xt] at hk;exact hk,by simp [CD,hk,e]⟩
theorem DK.step' (g:DK Sp z P ops cx st f) {k:Nat} (h:k<ops.size): ∃o,ops[CD ops k]? =some o/\XW Sp z P ops cx (Ds ops (CD ops k),o) (f k) (f (k+1)):=by
 have hl:k<(Yq ops).length :=by rw [Xt];exact h
 have e:CD ops k=(Yq ops)[k]:=by simp [CD,hl]
 have hlt:=XY h;refine ⟨ops[CD ops k],by simp [hlt],?_⟩;have:=g.step k hl;rw [<-e] at this;have hd:ops.getD (CD ops k) default=ops[CD ops k]:=by simp [hlt]
 grind
theorem DK.foot' (g:DK Sp z P ops cx st f) {q k:Nat} (hq:q<k) (h:k<ops.size) {o x:Oper} (ho:ops[CD ops k]? =some o) (hx:ops[CD ops q]? =some x):
  Ru ops (CD ops k,ES o.op (f k).eval,EP Sp o.op (f k).eval) (CD ops q,ES x.op (f q).eval,EP Sp x.op (f q).eval)\/lateF z ops (CD ops k,Ds ops (CD ops k),o) (f k).eval (f k).mem (CD ops q,ES x.op (f q).eval,EP Sp x.op (f q).eval)=true:=by
 have hl:k<(Yq ops).length :=by rw [Xt];exact h
 have hl2:q<(Yq ops).length :=by omega
 have e:CD ops k=(Yq ops)[k]:=by simp [CD,hl]
 have e2:CD ops q=(Yq ops)[q]:=by simp [CD,hl2]
 have:=g.foot q k hq hl;rw [<-e,<-e2] at this;have hd:ops.getD (CD ops k) default=o:=by simp [ho]
 have hd2:ops.getD (CD ops q) default=x:=by simp [hx]
 rw [hd,hd2] at this;exact this
theorem DK.next_le (g:DK Sp z P ops cx st f): ∀{a b:Nat},a<=b->b<=ops.size->(f a).next <=(f b).next :=by
 intro a b hab hb
 induction b with
 | zero=>grind
 | succ b ih=>
  by_cases e:a=b+1
  .grind
  .obtain ⟨o,_,s⟩:=g.step' (k:=b) (by omega);exact AP (ih (by omega) (by omega)) s.inv.nxt
theorem DK.bd (g:DK Sp z P ops cx st f) (h0: ∀b,st.next<=b->Yi st.mem b=none): ∀{k:Nat},k<=ops.size-> ∀b,(f k).next <=b->Yi (f k).mem b=none:=by
 intro k hk
 induction k with
 | zero=>rw [g.f0];exact h0
 | succ k ih=>obtain ⟨o,_,s⟩:=g.step' (k:=k) (by omega);exact s.inv.bd (ih (by omega))
theorem DK.slot_stays (g:DK Sp z P ops cx st f) {t:Tmp}: ∀{a b:Nat},a<=b->b<=ops.size->(∀k o,a<=k->k<b->ops[CD ops k]? =some o->o.dst≠some t)->(f b).tmp t=(f a).tmp t:=by
 intro a b hab hb hno
 induction b with
 | zero=>grind
 | succ b ih=>
  by_cases e:a=b+1
  .subst e;rfl
  .obtain ⟨o,ho,s⟩:=g.step' (k:=b) (by omega);rw [s.other (g.ob _ hb) t (hno b o (by omega) (by omega) ho)]
   grind
def Dv (z:Nat) (o:Oper):Prop:=Xn z o.op=.chain \/Xn z o.op=.call
def Mi (z:Nat) (o:Oper):Prop:=Xn z o.op=.pure \/Xn z o.op=.lit
def E0 (z:Nat) (o:Oper):Prop:=Xn z o.op=.alloc \/Xn z o.op=.birth
theorem Mg (z:Nat) (o:Oper):Mi z o\/Xn z o.op=.read \/E0 z o\/Dv z o:=by unfold Dv Mi E0;cases Xn z o.op <;> simp
theorem DK.mem_stays (g:DK Sp z P ops cx st f): ∀{a b:Nat},a<=b->b<=ops.size->(∀k o,a<=k->k<b->ops[CD ops k]? =some o->Mi z o\/Xn z o.op=.read)->(f b).mem =(f a).mem /\(f b).next =(f a).next :=by
 intro a b hab hb hno
 induction b with
 | zero=>grind
 | succ b ih=>
  by_cases e:a=b+1
  .grind
  .obtain ⟨o,ho,s⟩:=g.step' (k:=b) (by omega);obtain ⟨e1,e2⟩:=s.stay (by rcases hno b o (by omega) (by omega) ho with (k | k) | k <;> simp [k])
   grind
theorem DK.blk_stays (g:DK Sp z P ops cx st f) {x:Nat}: ∀{a b:Nat},a<=b->b<=ops.size->x<(f a).next ->
  (∀k o,a<=k->k<b->ops[CD ops k]? =some o->Mi z o\/Xn z o.op=.read \/(Xn z o.op=.call /\Ds ops (CD ops k)=true/\EP Sp o.op (f k).eval ≠some x)\/(Xn z o.op=.chain /\Dn o.op (f k).eval ≠some x)\/E0 z o)->Yi (f b).mem x=Yi (f a).mem x:=by
 intro a b hab hb hx hno
 induction b with
 | zero=>grind
 | succ b ih=>
  by_cases e:a=b+1
  .subst e;rfl
  .obtain ⟨o,ho,s⟩:=g.step' (k:=b) (by omega);have ih:=ih (by omega) (by omega) fun k o h1 h2=>hno k o h1 (by omega);rw [<-ih];rcases hno b o (by omega) (by omega) ho with h1 | h1 | ⟨h1,h2,h3⟩ | ⟨h1,h2⟩ | h1
   .rw [(s.stay (by rcases h1 with k | k <;> simp [k])).1]
   .rw [(s.stay (.inr (.inl h1))).1]
   .exact s.lift (g.ob _ hb) h2 h1 x (A1 hx (g.next_le (by omega) (by omega))) h3
   .exact s.foot (g.ob _ hb) h1 x (A1 hx (g.next_le (by omega) (by omega))) h2
   .obtain ⟨cells,ty,e1,_,_⟩:=s.fresh (g.ob _ hb) h1 (g.chk.guard _ o ho h1);have:=A1 hx (g.next_le (a:=a) (b:=b) (by omega) (by omega));rw [e1,Zw _ _ (by omega)]
structure El (z:Nat) (P:Program) (D:List Deferred) (ops:Array Oper) (cx:CL) (st:St) (f:Nat->St) (ρ0:B9) (w0:World) (S:Nat->Bool) (p:Nat) (ρ:B9) (a:Act) (w:World):Prop where
 closed:HK ops S
 defers:a.defers=D
 tsz:a.tmps.size=cx.n
 done: ∀k o d,k<ops.size->ops[CD ops k]? =some o->S (CD ops k)=true->o.dst=some d->Zn ρ ((f (k+1)).tmp d) (a.tmps.getD d undef)
 undone: ∀t,(∀i o,ops[i]? =some o->S i=true->o.dst≠some t)->Zn ρ (st.tmp t) (a.tmps.getD t undef)
 ple:p<=ops.size
 past: ∀k o,k<ops.size->ops[CD ops k]? =some o->E0 z o->k<p
 chain: ∀k o,k<ops.size->ops[CD ops k]? =some o->Dv z o->(S (CD ops k)=true↔k<p)
 rel:CB ρ (f p).mem (f p).next w
 ev:Ev ρ0 ρ cx.floor st.mem st.next (f p).mem (f p).next w0 w
 late: ∀k q o x b ab,k<q->q<p->q<ops.size->ops[CD ops k]? =some o->ops[CD ops q]? =some x->S (CD ops k)=false->Dv z x->G8 z ops (CD ops k) (CD ops q)=true->EQ x.op (f q).eval (f q).mem =some b->Yi (f q).mem b=some ab->CB ρ (Wm .leaf b (some ab)) (f p).next w
 allocs: ∀k o,k<ops.size->ops[CD ops k]? =some o->E0 z o->S (CD ops k)=false->st.next<=(f k).next /\(f k).next <(f p).next /\ρ (f k).next =none/\Yi (f p).mem (f k).next =Yi (f (k+1)).mem (f k).next
theorem y7m {o:Oper} {t:Tmp} (h:Operand.tmp t∈o.op.operands):t∈o.looksAt ops:=by unfold Oper.looksAt;rw [AW];left;rw [List.mem_filterMap];exact ⟨.tmp t,Array.mem_toList_iff.2 h,rfl⟩
theorem x3m {o:Oper} {d:Tmp} (h:Jj ops o=some d):d∈o.looksAt ops:=by
 grind [Oper.looksAt,Jj]
theorem w3p (g:DK Sp z P ops cx st f) {i:Nat} {o:Oper} (ho:ops[i]? =some o) (hk:Xn z o.op=.alloc):o.looksAt ops=[]:=by
 unfold Oper.looksAt;rw [g.chk.guard i o ho (.inl hk)];rw [U4] at hk;obtain ⟨dst,op,type,pos,after,guard⟩:=o;simp only at hk ⊢;cases op with
 | alloc t=>rfl
 | call c=>
  obtain ⟨callee,args,argTypes⟩:=c;cases callee with
  | builtin b=>cases b <;> cases hk
  | value f=>cases hk
  | invoke r m=>cases hk
 | _=>cases hk
section
variable {D:List Deferred} {ρ0:B9} {w0:World} {S:Nat->Bool} {p:Nat} {ρ:B9} {a:Act} {w:World}
theorem x3v (g:DK Sp z P ops cx st f) {i j:Nat} {x y:Oper} {d:Tmp} (hi:ops[i]? =some x) (hj:ops[j]? =some y) (hx:x.dst=some d) (hy:y.dst=some d):i=j:=by
 rcases Bo i j with h | h | h
 .exact absurd hy (g.chk.dst i j x y d h hi hj hx)
 .exact h
 .exact absurd hx (g.chk.dst j i y x d h hj hi hy)
theorem El.looks (g:DK Sp z P ops cx st f) (I:El z P D ops cx st f ρ0 w0 S p ρ a w) {k:Nat} {o:Oper} (hk:k<ops.size) (ho:ops[CD ops k]? =some o) (hns:S (CD ops k)=false) (eL:HR S o) {t:Tmp} (ht:t∈o.looksAt ops):
  Zn ρ ((f k).tmp t) (a.tmps.getD t undef):=by
 by_cases hw: ∃i x,ops[i]? =some x/\S i=true/\x.dst=some t
 .obtain ⟨i,x,hx,hs,hd⟩:=hw;have hil:i<ops.size:=(AB.1 hx).1;obtain ⟨k',hk',rfl⟩:=j6g hil;have hne:k'≠k:=fun e=>by grind
  have hlt:k'<k:=by
   rcases A7 k' k with h | h
   .exact h
   .exfalso;have hkk:k<k':=(by omega);rcases Bo (CD ops k) (CD ops k') with hij | hij | hij
    .rcases g.chk.pair _ _ _ _ hij ho hx with hf | ⟨hap,_⟩
     .have:=hf S I.closed (fun e he hb=>I.closed _ _ hx hs e he hb)
      grind
     grind [Oper.apart_spec]
    .grind
    .rcases Em hkk hk' with ⟨h1,_⟩ | ⟨_,h2⟩;all_goals grind [w3p,Jr]
  have hst:(f k).tmp t=(f (k'+1)).tmp t:=g.slot_stays (by omega) (by omega) fun q y h1 h2 hy hyd=>by
   have:=x3v g hx hy hd hyd;have e:CD ops k'=CD ops q:=this;rcases Em (ops:=ops) (k1:=k') (k2:=q) (by omega) (by omega) with ⟨h1,h2⟩ | ⟨_,h2⟩;all_goals grind
  rw [hst];exact I.done k' x t hk' hx hs hd
 .have hno: ∀i x,ops[i]? =some x->S i=true->x.dst≠some t:=fun i x hx hs hd=>hw ⟨i,x,hx,hs,hd⟩;have hst:(f k).tmp t=(f 0).tmp t:=g.slot_stays (AH _) (by omega) fun q y _ h2 hy hyd=>by
   have hqs:S (CD ops q)=false:=by
    grind
   rcases Bo (CD ops q) (CD ops k) with hij | hij | hij
   .rcases g.chk.pair _ _ _ _ hij hy ho with hf | ⟨hap,_⟩
    .have:=hf S I.closed eL
     grind
    grind [Oper.apart_spec]
   .rcases Em (ops:=ops) h2 hk with ⟨h1,h3⟩ | ⟨_,h3⟩;all_goals grind
   .rcases Em (ops:=ops) h2 hk with ⟨h1,_⟩ | ⟨_,h3⟩
    .have hap:=g.chk.alloc _ _ _ _ hij ho hy ((Jr (z:=z) hy).1 h1)
     grind [Oper.apart_spec]
    .omega
  rw [hst,g.f0];exact I.undone t hno
theorem El.operands (g:DK Sp z P ops cx st f) (I:El z P D ops cx st f ρ0 w0 S p ρ a w) {k:Nat} {o:Oper} (hk:k<ops.size) (ho:ops[CD ops k]? =some o) (hns:S (CD ops k)=false) (eL:HR S o):Qn ρ (f k).eval a.eval o.op:=by
 intro x hx;cases x with
 | tmp t=>exact I.looks g hk ho hns eL (y7m hx)
 | const v=>exact v4x v
 | global g=>exact .undef _
 | func f=>exact .fn f [] #[] rfl fun i h1 _=>by simp at h1
theorem El.slots (g:DK Sp z P ops cx st f) (I:El z P D ops cx st f ρ0 w0 S p ρ a w) {k:Nat} {o:Oper} (hk:k<ops.size) (ho:ops[CD ops k]? =some o) (hns:S (CD ops k)=false) {ρ':B9} (hle:ρ.le ρ') {u:Value}
  (eT: ∀d,o.dst=some d->Zn ρ' ((f (k+1)).tmp d) u) {S':Nat->Bool} (hS: ∀i,S' i=(S i||i == CD ops k)):
  (∀k' x d,k'<ops.size->ops[CD ops k']? =some x->S' (CD ops k')=true->x.dst=some d->Zn ρ' ((f (k'+1)).tmp d) ((a.put o.dst u).tmps.getD d undef))/\
  (∀t,(∀i x,ops[i]? =some x->S' i=true->x.dst≠some t)->Zn ρ' (st.tmp t) ((a.put o.dst u).tmps.getD t undef)):=by
 have other: ∀t,o.dst≠some t->(a.put o.dst u).tmps.getD t undef=a.tmps.getD t undef:=fun t ht=>by
  cases hd:o.dst with
  | none=>rfl
  | some d=>simp_all [Act.put]
 obtain ⟨_,ho',s⟩:=g.step' hk;rw [ho] at ho';obtain rfl:=Ag ho';refine ⟨fun k' x d hk' hx hs hd=> ?_,fun t hno=> ?_⟩
 .by_cases hod:o.dst=some d
  .have e:=x3v g ho hx hod hd;have hkk:k'=k:=by
    rcases Bo k' k with h | h | h
    .rcases Em (ops:=ops) h hk with ⟨h1,h3⟩ | ⟨_,h3⟩;all_goals grind
    .exact h
    .rcases Em (ops:=ops) h hk' with ⟨h1,h3⟩ | ⟨_,h3⟩;all_goals grind
   subst hkk;have hlt:d<a.tmps.size:=by rw [I.tsz];exact s.slot d hod
   simp_all [Act.put]
  .rw [other d hod];have hne:CD ops k'≠CD ops k:=fun e=>by
    grind
   have hs':S (CD ops k')=true:=by
    grind
   exact (I.done k' x d hk' hx hs' hd).mono hle
 .have hod:o.dst≠some t:=hno _ o ho (by rw [hS];simp);rw [other t hod];exact (I.undone t fun i x hx hs=>hno i x hx (by grind)).mono hle
theorem El.closes (I:El z P D ops cx st f ρ0 w0 S p ρ a w) {i:Nat} {o:Oper} (ho:ops[i]? =some o) (eL:HR S o) {S':Nat->Bool} (hS: ∀j,S' j=(S j||j == i)):HK ops S':=by
 intro j x hx hs e he hb;rw [hS] at hs ⊢;by_cases hj:j=i
 .subst hj;rw [ho] at hx;obtain rfl:=Ag hx;rw [eL e he hb];rfl
 .have:S j=true:=by grind
  rw [I.closed j x hx this e he hb];rfl
theorem w9v {i:Nat} {l:Bool} {o:Oper} {ev:Operand->B5} {mem:CE} {y:D3} (h:Xn z o.op=.read):lateF z ops (i,l,o) ev mem y=false:=by
 have hk:EQ o.op ev mem=none:=by
  unfold EQ;split
  .rename_i e;rw [e] at h;cases h
  .rfl
 unfold lateF
 grind
theorem w9u {i j b:Nat} {l:Bool} {x:Oper} {ev:Operand->B5} {mem:CE} {wr:Option Nat} (h:lateF z ops (i,l,x) ev mem (j,some b,wr)=true):G8 z ops j i=true/\EQ x.op ev mem=some b:=by
 unfold lateF at h;split at h
 .rename_i j' b' e;simp only [Ac,Ae] at e;obtain ⟨rfl,rfl,rfl⟩:=e;split at h;all_goals simp_all
 .cases h
theorem El.between (g:DK Sp z P ops cx st f) (I:El z P D ops cx st f ρ0 w0 S p ρ a w) {k:Nat} {o:Oper} (hk:k<ops.size) (ho:ops[CD ops k]? =some o) (hns:S (CD ops k)=false) (eL:HR S o) (gJ:Xn z o.op=.read) {b:Nat} (hb:ES o.op (f k).eval =some b):
  (∀q x,p<=q->q<k->ops[CD ops q]? =some x->Mi z x\/Xn z x.op=.read \/(Xn z x.op=.call /\Ds ops (CD ops q)=true/\EP Sp x.op (f q).eval ≠some b)\/(Xn z x.op=.chain /\Dn x.op (f q).eval ≠some b)\/E0 z x)/\
  (∀q x,k<=q->q<p->ops[CD ops q]? =some x->Mi z x\/Xn z x.op=.read \/(Xn z x.op=.call /\Ds ops (CD ops q)=true/\EP Sp x.op (f q).eval ≠some b)\/(Xn z x.op=.chain /\Dn x.op (f q).eval ≠some b)\/E0 z x\/(Dv z x/\G8 z ops (CD ops k) (CD ops q)=true/\EQ x.op (f q).eval (f q).mem =some b)):=by
 have nal:isAlloc ops (CD ops k)=false:=by
  grind [Jr]
 constructor
 .intro q x h1 h2 hx;rcases Mg z x with h | h | h | h
  .exact .inl h
  .grind
  .grind
  .have hqs:S (CD ops q)=false:=by
    cases e:S (CD ops q) with
    | false=>rfl
    | true=>have:=(I.chain q x (by omega) hx h).1 e;omega
   have hlt:CD ops q<CD ops k:=by
    rcases Em (ops:=ops) h2 hk with ⟨h3,_⟩ | ⟨_,h3⟩
    .have:=I.past q x (by omega) hx (.inl ((Jr (z:=z) hx).1 h3));omega
    .exact h3
   rcases g.chk.pair _ _ _ _ hlt hx ho with hf | ⟨_,hkd,hl,_⟩
   .have:=hf S I.closed eL
    grind
   .have no:EP Sp x.op (f q).eval ≠some b:=fun hw=>by
     have:=(g.foot' h2 hk ho hx).resolve_right (fun hl=>by
      rw [w9v gJ] at hl;cases hl) (.inl (by rw [hb,hw];exact Bu b))
     unfold ordered at this;simp only [BD] at this;rcases this with this | this
     .have:=(g.chk.bits _ _ hx _ this).1;omega
     .have:=(g.chk.bits _ _ ho _ this).2 S I.closed eL
      grind
    rcases h with h | h;all_goals simp_all [x4s,x3q]
 .intro q x h1 h2 hx;have hp:=I.ple;rcases Mg z x with h | h | h | h
  .exact .inl h
  .grind
  .grind
  .have hqs:S (CD ops q)=true:=(I.chain q x (by omega) hx h).2 h2;have hne:q≠k:=fun e=>by grind
   have hlt:CD ops k<CD ops q:=by
    rcases Em (ops:=ops) (k1:=k) (k2:=q) (by omega) (by omega) with ⟨h3,_⟩ | ⟨_,h3⟩;all_goals grind
   rcases g.chk.pair _ _ _ _ hlt ho hx with hf | ⟨_,hkd,_,hl⟩
   .have:=hf S I.closed fun e he hb=>I.closed _ _ hx hqs e he hb
    grind
   .rcases g.foot' (q:=k) (k:=q) (by omega) (by omega) hx ho with hfo | hla
    rotate_left
    .grind [w9u]
    have no:EP Sp x.op (f q).eval ≠some b:=fun hw=>by
     have:=hfo (.inr (by rw [hb,hw];exact Bu b));unfold ordered at this;simp only [BD] at this;rcases this with this | this
     .have:=(g.chk.bits _ _ ho _ this).1;omega
     .have:=(g.chk.bits _ _ hx _ this).2 S I.closed fun e he hb=>I.closed _ _ hx hqs e he hb
      grind
    rcases h with h | h;all_goals simp_all [x4s,x3q]
theorem El.next_chain (g:DK Sp z P ops cx st f) (I:El z P D ops cx st f ρ0 w0 S p ρ a w) {k:Nat} {o:Oper} (hk:k<ops.size) (ho:ops[CD ops k]? =some o) (hns:S (CD ops k)=false) (eL:HR S o) (hch:Dv z o):
  p<=k/\(∀q x,q<ops.size->ops[CD ops q]? =some x->Dv z x->(S (CD ops q)=true↔q<k)):=by
 have nal:isAlloc ops (CD ops k)=false:=by
  cases e:isAlloc ops (CD ops k) with
  | false=>rfl
  | true=>have:=(Jr (z:=z) ho).1 e;rcases hch with h | h <;> rw [h] at this <;> cases this
 have key: ∀q x,q<ops.size->ops[CD ops q]? =some x->Dv z x->(S (CD ops q)=true↔q<k):=by
  intro q x hq hx hxc;have nalx:isAlloc ops (CD ops q)=false:=by
   cases e:isAlloc ops (CD ops q) with
   | false=>rfl
   | true=>have:=(Jr (z:=z) hx).1 e;rcases hxc with h | h <;> rw [h] at this <;> cases this
  have nok: ∀(x y:Oper),Dv z x->Dv z y->w1u (Xn z x.op) (Xn z y.op)=false:=by
   intro x y hx hy;rcases hx with h | h <;> rcases hy with h' | h' <;> rw [h,h'] <;> rfl
  constructor
  .intro hs;rcases Bo q k with h | h | h
   .exact h
   .grind
   .exfalso;have hlt:CD ops k<CD ops q:=by
     rcases Em (ops:=ops) h hq with ⟨h3,_⟩ | ⟨_,h3⟩;all_goals grind
    rcases g.chk.pair _ _ _ _ hlt ho hx with hf | ⟨_,hkd,_⟩
    .have:=hf S I.closed fun e he hb=>I.closed _ _ hx hs e he hb
     grind
    grind
  .intro h;have hlt:CD ops q<CD ops k:=by
    rcases Em (ops:=ops) h hk with ⟨h3,_⟩ | ⟨_,h3⟩;all_goals grind
   rcases g.chk.pair _ _ _ _ hlt hx ho with hf | ⟨_,hkd,_⟩
   .exact hf S I.closed eL
   grind
 refine ⟨?_,key⟩;rcases A7 k p with h | h
 .have:=(I.chain k o hk ho hch).2 h
  grind
 .exact h
end
end
section
variable {Sp:B7} {z:Nat} {P:Program} {D:List Deferred} {ops:Array Oper} {cx:CL} {st:St} {f:Nat->St}
theorem w7k {ρ ρ':B9} {floor:Nat} {m m':CE} {n n':Nat} {w w':World} (h:CB ρ m n w) (h':CB ρ' m' n' w') (e:Ev ρ ρ' floor m n m' n' w w') {b:Nat} {ab:CA} (hm:Yi m b=some ab) (hb: ∀l,ρ b=some l->Vv ρ w' ab l):
  CB ρ' (Wm .leaf b (some ab)) n' w':=by
 have hbn:b<n:=by
  rcases A7 b n with g | g
  .exact g
  .rw [h.bd b g] at hm;cases hm
 have hn:=e.nxt;have hg: ∀c,(Yi (Wm .leaf b (some ab)) c).isSome =true->c=b:=fun c hc=>by
  by_cases hcb:c=b
  .exact hcb
  .rw [Zw _ _ hcb] at hc;cases hc
 refine ⟨h'.dom,fun c c' l l' _ _ _ hs hs'=>(hg c hs).trans (hg c' hs').symm,fun c l a hc ha=> ?_,h'.old,fun c l hc hs=> ?_,h'.real,fun c hc=> ?_,h'.ldom⟩
 .obtain rfl:=hg c (by rw [ha];rfl);rw [Zs] at ha;obtain rfl:=Ag ha;rw [e.new c hbn] at hc;have q:=hb l hc;exact q.world e.ext rfl
 .obtain rfl:=hg c hs;rw [e.new c hbn] at hc;rw [e.still _ (h.real c l hc)];exact h.sep c l hc (by rw [hm];rfl)
 .rw [Zw _ _ (by omega)];rfl
theorem u3u (g:DK Sp z P ops cx st f) {ρ0:B9} {w0:World} (hout: ∀i,cx.n<=i->T.get .undef st.env i=.undef) (hbd: ∀b,st.next<=b->Yi st.mem b=none): ∀(fuel:Nat) (listed:Array Bool) (p:Nat) (ρ:B9) (a:Act) (w:World),listed.size=ops.size->
  (List.range ops.size).countP (fun i=> !listed.getD i false)=fuel->El z P D ops cx st f ρ0 w0 (fun i=>listed.getD i false) p ρ a w->wpAny P .any ops (I9 D ρ0 cx st (f ops.size) w0) fuel listed a w:=by
 have someReady: ∀listed:Array Bool,listed.size=ops.size-> ∀i,i<ops.size->listed.getD i false=false-> ∃j,j∈Region.ready .any ops listed:=by
  intro listed hsz i
  induction i using Nat.strongRecOn with
  | _ i ih=>
   intro hi hl;by_cases h: ∃e∈(ops[i]).after.toList,Region.binds .any e=true/\listed.getD e.on false=false
   .obtain ⟨e,he,hb,hf⟩:=h;have hlt:=g.chk.ord i ops[i] (by simp [hi]) e he hb
    grind
   .refine ⟨i,mem_ready.2 ⟨?_,ops[i],by simp [hi],fun e he hb=> ?_⟩⟩;all_goals grind
 intro fuel
 induction fuel with
 | zero=>
  intro listed p ρ a w hsz gK I;have fC: ∀i,i<ops.size->listed.getD i false=true:=by simp_all
  refine ⟨?_,rfl,I.defers,ρ,?_,?_,?_⟩
  .simp_all [Region.ready]
  .refine ⟨I.tsz,fun t=> ?_,fun i hi=> ?_⟩
   .by_cases hw: ∃(i:Nat) (x:Oper),ops[i]? =some x/\x.dst=some t
    .obtain ⟨i,x,hx,hd⟩:=hw;have hil:i<ops.size:=(AB.1 hx).1;obtain ⟨k,hk,rfl⟩:=j6g hil;have hst:(f ops.size).tmp t=(f (k+1)).tmp t:=g.slot_stays (by omega) (Aj _) fun q y h1 h2 hy hyd=>by
      have e:CD ops k=CD ops q:=x3v g hx hy hd hyd;rcases Em (ops:=ops) (k1:=k) (k2:=q) (by omega) h2 with ⟨h3,h4⟩ | ⟨_,h4⟩;all_goals grind
     show Zn ρ ((f ops.size).tmp t) _;rw [hst];exact I.done k x t hk hx (fC _ hil) hd
    .have hst:(f ops.size).tmp t=(f 0).tmp t:=g.slot_stays (AH _) (Aj _) fun q y _ h2 hy hyd=>hw ⟨_,y,hy,hyd⟩;show Zn ρ ((f ops.size).tmp t) _;rw [hst,g.f0];exact I.undone t fun i x hx _ hd=>hw ⟨i,x,hx,hd⟩
   .have hst:(f ops.size).tmp i=(f 0).tmp i:=g.slot_stays (AH _) (Aj _) fun q y _ h2 hy hyd=>by obtain ⟨o,ho,s⟩:=g.step' h2;rw [hy] at ho;obtain rfl:=Ag ho;exact absurd hi (Nat.not_le_of_lt (s.slot i hyd))
    show (f ops.size).tmp i=_;rw [hst,g.f0];exact hout i hi
  .obtain ⟨e1,e2⟩:=g.mem_stays I.ple (Aj _) fun k o h1 h2 ho=>by
    rcases Mg z o with h | h | h | h
    .exact .inl h
    .exact .inr h
    .have:=I.past k o h2 ho h;omega
    .have:=(I.chain k o h2 ho h).1 (fC _ (XY h2));omega
   rw [e1,e2];exact I.rel
  .obtain ⟨e1,e2⟩:=g.mem_stays I.ple (Aj _) fun k o h1 h2 ho=>by
    rcases Mg z o with h | h | h | h
    .exact .inl h
    .exact .inr h
    .have:=I.past k o h2 ho h;omega
    .have:=(I.chain k o h2 ho h).1 (fC _ (XY h2));omega
   rw [e1,e2];exact I.ev
 | succ fuel ih=>
  intro listed p ρ a w hsz gK I;refine ⟨fun hr=> ?_,fun i hi=> ?_⟩
  .exfalso;have: ∃i,i<ops.size/\listed.getD i false=false:=by
    have fM:0<(List.range ops.size).countP (fun i=> !listed.getD i false):=(by omega);obtain ⟨i,hi,h⟩:=List.countP_pos_iff.1 fM
    grind
   grind
  .obtain ⟨hun,o,ho,hafter⟩:=mem_ready.1 hi;have hil:i<ops.size:=(AB.1 ho).1;obtain ⟨k,hk,rfl⟩:=j6g hil;have hil2:CD ops k<listed.size:=by omega
   have hns:listed.getD (CD ops k) false=false:=by grind
   have eL:HR (fun i=>listed.getD i false) o:=fun e he hb=>hafter e (Array.mem_toList_iff.1 he) hb;have hS: ∀j,(listed.setIfInBounds (CD ops k) true).getD j false=(listed.getD j false||j == CD ops k):=by
    intro j;by_cases hj:j=CD ops k
    .simp_all
    .have:(j == CD ops k)=false:=(by grind);simp [this,Array.getElem?_setIfInBounds_ne (Ne.symm hj)]
   have hcnt':(List.range ops.size).countP (fun i=> !(listed.setIfInBounds (CD ops k) true).getD i false)=fuel:=by
    have:=Y8 (fun i=> !listed.getD i false) (fun i=> !(listed.setIfInBounds (CD ops k) true).getD i false) (CD ops k) ops.size (fun j hj=>by
     grind) (by grind) (by rw [hS];simp) hil
    omega
   have gG:(listed.setIfInBounds (CD ops k) true).size =ops.size:=by grind
   have fW:=I.closes ho eL hS;have undone: ∀{j:Nat},(listed.setIfInBounds (CD ops k) true).getD j false=false->listed.getD j false=false:=fun {j} h=>by
    grind
   have calms: ∀(k1 q:Nat) (o1 x:Oper),k1<q->q<p->q<ops.size->ops[CD ops k1]? =some o1->ops[CD ops q]? =some x->(listed.setIfInBounds (CD ops k) true).getD (CD ops k1) false=false->Dv z x->G8 z ops (CD ops k1) (CD ops q)=true->X3 z o.op=true:=fun k1 q o1 x c1 c2 c3 c4 c5 c6 c7 c8=>by
    have hq:=(I.chain q x c3 c5 c7).2 c2;have h8:=Ax.1 c8 (CD ops k) (A0.2 hil);rw [ho] at h8;simp only [BD] at h8;rcases h8 with h8 | h8 | h8 | h8
    .exact h8
    .simp_all
    .have:=(g.chk.bits _ _ c5 _ h8).2 _ I.closed fun e he hb=>I.closed _ _ c5 hq e he hb
     grind
    .have:=(g.chk.bits _ _ ho _ h8).2 _ I.closed eL
     grind
   have notcalm: ∀{α:Prop},Xn z o.op≠ .pure ->Xn z o.op≠ .read ->X3 z o.op=true->α:=fun h1 h2 h=>by
    grind [X3]
   obtain ⟨o',ho',s⟩:=g.step' hk;rw [ho] at ho';obtain rfl:=Ag ho';have hops:=I.operands g hk ho hns eL;have hguard: ∀d,Jj ops o=some d->Zn ρ ((f k).tmp d) (a.tmps.getD d undef):=fun d hd=>I.looks g hk ho hns eL (x3m hd);have hob:=g.ob (k+1) (by omega);have finish: ∀{q:Prop},(if Region.wanted o (yielded ops a.tmps) then o.wp P a w (wpAny P .any ops (I9 D ρ0 cx st (f ops.size) w0) fuel (listed.setIfInBounds (CD ops k) true)) (I9 D ρ0 cx st (f ops.size) w0) else wpAny P .any ops (I9 D ρ0 cx st (f ops.size) w0) fuel (listed.setIfInBounds (CD ops k) true) (a.put o.dst undef) w)->
     wpOp P ops (I9 D ρ0 cx st (f ops.size) w0) (CD ops k) (wpAny P .any ops (I9 D ρ0 cx st (f ops.size) w0) fuel (listed.setIfInBounds (CD ops k) true)) a w:=by
    grind [wpOp]
   have calm:(Xn z o.op=.pure \/Xn z o.op=.read)->wpOp P ops (I9 D ρ0 cx st (f ops.size) w0) (CD ops k) (wpAny P .any ops (I9 D ρ0 cx st (f ops.size) w0) fuel (listed.setIfInBounds (CD ops k) true)) a w:=by
    intro hkd;obtain ⟨memC,hrelC,hagC⟩: ∃memC,CB ρ memC (f p).next w/\ ∀t y b ab,o.op=.load t y->ES o.op (f k).eval =some b->Yi (f k).mem b=some ab->Yi memC b=some ab:=by
     by_cases hl: ∃t y b ab q x,o.op=.load t y/\ES o.op (f k).eval =some b/\Yi (f k).mem b=some ab/\k<=q/\q<p/\ops[CD ops q]? =some x/\Dv z x/\G8 z ops (CD ops k) (CD ops q)=true/\EQ x.op (f q).eval (f q).mem =some b
     .obtain ⟨t,y,b,ab,q0,x0,hop,hrd,hm,l1,l2,l3,l4,l5,l6⟩:=hl;have gJ:Xn z o.op=.read :=by rw [hop];rfl
      obtain ⟨_,b2⟩:=I.between g hk ho hns eL gJ hrd;have hbn:b<(f k).next :=by
       rcases A7 b (f k).next with h | h
       .exact h
       .rw [g.bd hbd (by omega) b h] at hm;cases hm
      have first: ∀n q x,q<=n->k<=q->q<p->ops[CD ops q]? =some x->Dv z x->G8 z ops (CD ops k) (CD ops q)=true->EQ x.op (f q).eval (f q).mem =some b->
        ∃q x,k<=q/\q<p/\ops[CD ops q]? =some x/\Dv z x/\G8 z ops (CD ops k) (CD ops q)=true/\EQ x.op (f q).eval (f q).mem =some b/\ ∀q' x',k<=q'->q'<q->ops[CD ops q']? =some x'-> ¬(Dv z x'/\G8 z ops (CD ops k) (CD ops q')=true/\EQ x'.op (f q').eval (f q').mem =some b):=by
       intro n
       induction n with
       | zero=>grind
       | succ n ih=>
        intro q x h0 h1 h2 h3 h4 h5 h6;by_cases he: ∃q' x',k<=q'/\q'<q/\ops[CD ops q']? =some x'/\Dv z x'/\G8 z ops (CD ops k) (CD ops q')=true/\EQ x'.op (f q').eval (f q').mem =some b
        .obtain ⟨q',x',e1,e2,e3,e4,e5,e6⟩:=he;exact ih q' x' (by omega) e1 (by omega) e3 e4 e5 e6
        .exact ⟨q,x,h1,h2,h3,h4,h5,h6,fun q' x' e1 e2 e3 e4=>he ⟨q',x',e1,e2,e3,e4⟩⟩
      obtain ⟨q,x,h1,h2,h3,h4,h5,h6,h7⟩:=first q0 q0 x0 (Aj _) l1 l2 l3 l4 l5 l6
      have hple:=I.ple;have hne:k≠q:=fun e=>by
       rw [<-e,ho] at h3;obtain rfl:=Ag h3;rcases h4 with h | h <;> rw [gJ] at h <;> cases h
      have hst:=g.blk_stays (x:=b) (a:=k) (b:=q) h1 (by omega) hbn fun q' x' e1 e2 e3=>by
       rcases b2 q' x' e1 (by omega) e3 with d | d | d | d | d | d;all_goals grind
      refine ⟨_,I.late k q o x b ab (by omega) h2 (by omega) ho h3 hns h4 h5 h6 (by grind),fun t' y' b' ab' hop' hrd' hm'=> ?_⟩
      grind [Zs]
     .refine ⟨(f p).mem,I.rel,fun t y b ab hop hrd hm=> ?_⟩;have gJ:Xn z o.op=.read :=by rw [hop];rfl
      obtain ⟨b1,b2⟩:=I.between g hk ho hns eL gJ hrd;have b2: ∀q x,k<=q->q<p->ops[CD ops q]? =some x->Mi z x\/Xn z x.op=.read \/(Xn z x.op=.call /\Ds ops (CD ops q)=true/\EP Sp x.op (f q).eval ≠some b)\/(Xn z x.op=.chain /\Dn x.op (f q).eval ≠some b)\/E0 z x:=fun q x e1 e2 e3=>by
       rcases b2 q x e1 e2 e3 with d | d | d | d | d | d;all_goals grind
      have hρ: ∃l,ρ b=some l:=by
       have:=hops y (by rw [hop];simp [Op.operands]);rw [hop] at hrd;simp only [ES] at hrd;generalize a.eval y=uy at this;split at hrd
       .rename_i hy;rw [hy] at this;obtain rfl:=Ag hrd;cases this with
        | ptr _ _ l h=>grind
       .rename_i hy;rw [hy] at this;obtain rfl:=Ag hrd;cases this with
        | epa _ _ _ _ l h=>grind
       .cases hrd
      obtain ⟨l,hl⟩:=hρ;rcases Nat.le_total p k with hpk | hpk
      .have:=g.blk_stays (x:=b) hpk (by omega) (I.rel.dom b l hl) b1
       grind
      .have hbn:b<(f k).next :=by
        rcases A7 b (f k).next with h | h
        .exact h
        .rw [g.bd hbd (by omega) b h] at hm;cases hm
       have:=g.blk_stays (x:=b) hpk I.ple hbn b2
       grind
    refine finish (q:=True) (s.calm hob hkd ρ a w (f k).eval memC (f p).next I.tsz (fun _ _=>rfl) hguard hops hrelC hagC _ _ fun u eT=> ?_)
    .obtain ⟨d1,d2⟩:=I.slots g hk ho hns (B9.le_refl ρ) eT hS;refine ih _ p ρ _ w gG hcnt' ⟨fW,by rw [Act.put_defers'];exact I.defers,by cases h:o.dst <;> simp [Act.put,I.tsz],d1,d2,I.ple,I.past,fun q x hq hx hc=> ?_,I.rel,I.ev,fun k1 q o1 x b ab c1 c2 c3 c4 c5 c6=>I.late k1 q o1 x b ab c1 c2 c3 c4 c5 (undone c6),fun q x hq hx hnw hs=> ?_⟩
     .have hne:CD ops q≠CD ops k:=fun e=>by
       rw [e,ho] at hx;obtain rfl:=Ag hx;rcases hc with h | h <;> rcases hkd with h' | h' <;> rw [h] at h' <;> cases h'
      rw [hS]
      simpa [hne] using I.chain q x hq hx hc
     .rw [hS] at hs;simp only [AT] at hs;exact I.allocs q x hq hx hnw hs.1
   rcases Mg z o with (hkd | hkd) | hkd | hkd | hkd
   .grind
   ·-- a slice that is written out, as data
    refine finish (q:=True) (s.lit hob hkd ρ a w (f k).eval (f p).mem (f p).next I.tsz (fun _ _=>rfl) hguard hops I.rel _ _ fun ρ' u w' eT eX eO hev=> ?_);obtain ⟨d1,d2⟩:=I.slots g hk ho hns (hev cx.floor (f p).mem).ext eT hS;refine ih _ p ρ' _ w' gG hcnt' ⟨fW,by rw [Act.put_defers'];exact I.defers,by cases h:o.dst <;> simp [Act.put,I.tsz],d1,d2,I.ple,I.past,fun q x hq hx hc=> ?_,eX,I.ev.trans (hev _ _),fun k1 q o1 x b ab c1 c2 c3 c4 c5 c6 c7 c8=>notcalm (by grind) (by grind) (calms k1 q o1 x c1 c2 c3 c4 c5 c6 c7 c8),fun q x hq hx hnw hs=> ?_⟩
    .have hne:CD ops q≠CD ops k:=fun e=>by
      rw [e,ho] at hx;obtain rfl:=Ag hx;rcases hc with h | h <;> rw [h] at hkd <;> cases hkd
     rw [hS]
     simpa [hne] using I.chain q x hq hx hc
    .rw [hS] at hs;simp only [AT] at hs;obtain ⟨m1,m2,m3,m4⟩:=I.allocs q x hq hx hnw hs.1
     grind
   .grind
   ·-- a block is made
    have hgn:=g.chk.guard _ o ho hkd;obtain ⟨cells,ty,hm1,hn1,hborn⟩:=s.fresh hob hkd hgn;obtain ⟨l1,l2,l3,l4⟩:=I.allocs k o hk ho hkd hns;rw [hm1,Zs] at l4;obtain ⟨u,vs,el,hel,hvs,eE,eT⟩:=hborn ρ a w (f k).eval (fun _ _=>rfl) hops;have eX:=I.rel.birth l2 l3 l4 el hvs hel;refine finish (q:=True) ?_;rw [AG (by unfold Region.wanted;rw [hgn])];unfold Oper.wp;rw [eE];have hle:ρ.le (Uq ρ (f k).next ⟨w.heap.size,0,cells.length,vs.size⟩):=Ip l3;obtain ⟨d1,d2⟩:=I.slots g hk ho hns hle (u:=u) (fun d hd=>eT _ (by simp [Uq]) d hd) hS;have ev':Ev ρ0 (Uq ρ (f k).next ⟨w.heap.size,0,cells.length,vs.size⟩) cx.floor st.mem st.next (f p).mem (f p).next w0 {w with heap:=w.heap.push (.cells vs el)}:=by
     have e:=I.ev;refine ⟨B9.le_trans e.ext hle,fun b hb=> ?_,e.nxt,e.unborn,fun q ob hq hf=> ?_,fun b l hb hl=> ?_,?_,e.os,e.tape,e.output,e.still⟩
     .rw [<-e.new b hb];rw [Uc,Az (by omega)]
     .have:=e.frame q ob hq hf
      grind
     .rw [Uc] at hl;by_cases hbk:b=(f k).next
      .rw [AG hbk] at hl;obtain rfl:=Ag hl;exact .inl e.size
      .rw [Az hbk] at hl;exact e.fresh b l hb hl
     .have:=e.size;simp;omega
    refine ih _ p _ _ _ gG hcnt' ⟨fW,by rw [Act.put_defers'];exact I.defers,by cases h:o.dst <;> simp [Act.put,I.tsz],d1,d2,I.ple,I.past,fun q x hq hx hc=> ?_,eX,ev',fun k1 q o1 x b ab c1 c2 c3 c4 c5 c6 c7 c8=>notcalm (by rcases hkd with h | h <;> rw [h] <;> exact fun h=>by cases h) (by rcases hkd with h | h <;> rw [h] <;> exact fun h=>by cases h) (calms k1 q o1 x c1 c2 c3 c4 c5 c6 c7 c8),fun q x hq hx hnw hs=> ?_⟩
    .have hne:CD ops q≠CD ops k:=fun e=>by
      rw [e,ho] at hx;obtain rfl:=Ag hx;rcases hc with h | h <;> rcases hkd with h' | h' <;> rw [h] at h' <;> cases h'
     rw [hS]
     simpa [hne] using I.chain q x hq hx hc
    .rw [hS] at hs;simp only [AT] at hs;obtain ⟨m1,m2,m3,m4⟩:=I.allocs q x hq hx hnw hs.1;refine ⟨m1,m2,?_,m4⟩;have hne:(f q).next ≠(f k).next :=by
      have hqk:q≠k:=fun e=>by grind
      have up: ∀q x,q<ops.size->ops[CD ops q]? =some x->E0 z x->(f (q+1)).next =(f q).next +1:=by intro q x hq hx hn;obtain ⟨x',hx',s'⟩:=g.step' hq;rw [hx] at hx';obtain rfl:=Ag hx';obtain ⟨_,_,_,h6,_⟩:=s'.fresh (g.ob _ (by omega)) hn (g.chk.guard _ x hx hn);exact h6
      rcases Bo q k with h | h | h
      .have h1:=up q x hq hx hnw;have h2:=g.next_le (a:=q+1) (b:=k) (by omega) (by omega);omega
      .grind
      .have h1:=up k o hk ho hkd;have h2:=g.next_le (a:=k+1) (b:=q) (by omega) (by omega);omega
     grind [Uc]
   ·-- the next one that may write
    obtain ⟨hpk,hch⟩:=I.next_chain g hk ho hns eL hkd;obtain ⟨e1,e2⟩:=g.mem_stays hpk (by omega) fun q x h1 h2 hx=>by
     rcases Mg z x with h | h | h | h
     .exact .inl h
     .exact .inr h
     .have:=I.past q x (by omega) hx h;omega
     .have:=(I.chain q x (by omega) hx h).1 ((hch q x (by omega) hx h).2 h2);omega
    have eB:CB ρ (f k).mem (f k).next w:=by rw [e1,e2];exact I.rel
    refine finish (q:=True) (s.does hob hkd ρ a w (f k).eval I.tsz (fun _ _=>rfl) hguard hops eB _ _ fun ρ' u w' eT eX hev hlate=> ?_);obtain ⟨d1,d2⟩:=I.slots g hk ho hns hev.ext eT hS;have hev0:=hev;rw [e1,e2] at hev;refine ih _ (k+1) ρ' _ w' gG hcnt' ⟨fW,by rw [Act.put_defers'];exact I.defers,by cases h:o.dst <;> simp [Act.put,I.tsz],d1,d2,by omega,fun q x hq hx hc=>by have:=I.past q x hq hx hc;omega,fun q x hq hx hc=> ?_,eX,I.ev.trans hev,fun k1 q o1 x b ab c1 c2 c3 c4 c5 c6 c7 c8 c9 c10=> ?late,fun q x hq hx hnw hs=> ?_⟩
    case late=>
     by_cases hqk:q=k
     .subst hqk;rw [ho] at c5;obtain rfl:=Ag c5;exact w7k eB eX hev0 c10 fun l hl=>hlate b ab l c9 c10 hl
     .have hqs:=(hch q x c3 c5 c7).2 (by omega);have hqp:=(I.chain q x c3 c5 c7).1 hqs;exact notcalm (by rcases hkd with h | h <;> rw [h] <;> exact fun h=>by cases h) (by rcases hkd with h | h <;> rw [h] <;> exact fun h=>by cases h) (calms k1 q o1 x c1 hqp c3 c4 c5 c6 c7 c8)
    .rw [hS];by_cases hqk:q=k
     .grind
     .have hne:CD ops q≠CD ops k:=fun e=>by
       rcases A7 q k with h | h
       .grind
       .rcases Em (ops:=ops) (k1:=k) (k2:=q) (by omega) hq with ⟨h3,h4⟩ | ⟨_,h4⟩;all_goals grind
      have:=hch q x hq hx hc;simp only [beq_eq_false_iff_ne.2 hne,Bool.or_false];rw [this];omega
    .rw [hS] at hs;simp only [AT] at hs;obtain ⟨m1,m2,m3,m4⟩:=I.allocs q x hq hx hnw hs.1;obtain ⟨x',hx',s'⟩:=g.step' hq;rw [hx] at hx';obtain rfl:=Ag hx';obtain ⟨cells,ty,hm1,_,_⟩:=s'.fresh (g.ob _ (by omega)) hnw (g.chk.guard _ x hx hnw);have e0:Yi (f (q+1)).mem (f q).next =some ⟨cells,ty,none⟩:=by rw [hm1,Zs]
     rw [e0] at m4;refine ⟨m1,A1 m2 hev.nxt,by rw [hev.new _ m2];exact m3,by rw [e0];exact hev.unborn _ m2 m3 _ _ m4⟩
theorem v5w (g:DK Sp z P ops cx st f) {ρ:B9} {a:Act} {w:World} (hd:a.defers=D) (eG:Vg ρ st.env cx.n a.tmps) (eB:CB ρ st.mem st.next w):
  ∃p,El z P D ops cx st f ρ w (fun i=>(Array.replicate ops.size false).getD i false) p ρ a w:=by
 have hf: ∀i,(Array.replicate ops.size false).getD i false=false:=fun i=>by
  by_cases h:i<ops.size;all_goals simp_all
 have hA: ∃p,p<=ops.size/\(∀k o,k<ops.size->ops[CD ops k]? =some o->E0 z o->k<p)/\(p=0\/ ∃o,ops[CD ops (p - 1)]? =some o/\E0 z o):=by
  have: ∀n,n<=ops.size-> ∃p,p<=n/\(∀k o,k<n->ops[CD ops k]? =some o->E0 z o->k<p)/\(p=0\/ ∃o,ops[CD ops (p - 1)]? =some o/\E0 z o):=by
   intro n
   induction n with
   | zero=>grind
   | succ n ih=>
    intro hn;obtain ⟨p,hp,hk,fF⟩:=ih (by omega);have hlt:=XY (ops:=ops) (k:=n) (by omega);have hx:ops[CD ops n]? =some ops[CD ops n]:=(by simp [hlt]);by_cases e:E0 z ops[CD ops n]
    .exact ⟨n+1,Aj _,fun k o h _ _=>h,.inr ⟨_,hx,e⟩⟩
    .refine ⟨p,by omega,fun k o h ho hnw=> ?_,fF⟩;by_cases hkn:k=n
     .grind
     .exact hk k o (by omega) ho hnw
  simp_all
 obtain ⟨p,hp,hpk,fF⟩:=hA;have noch: ∀k o,k<p->ops[CD ops k]? =some o-> ¬Dv z o:=by
  intro k o hk ho hc;rcases fF with h0 | ⟨x,hx,hnw⟩
  .omega
  .by_cases hkp:k=p - 1
   .rw [<-hkp,ho] at hx;obtain rfl:=Ag hx;rcases hc with h | h <;> rcases hnw with h' | h' <;> rw [h] at h' <;> cases h'
   .have nal:isAlloc ops (CD ops k)=false:=by
     cases e:isAlloc ops (CD ops k) with
     | false=>rfl
     | true=>
      have:=(Jr (z:=z) ho).1 e;rcases hc with h | h <;> rw [h] at this <;> cases this
    rcases Em (ops:=ops) (k1:=k) (k2:=p - 1) (by omega) (by omega) with ⟨h3,_⟩ | ⟨h3,h4⟩
    .grind
    .rw [nal] at h3;rcases hnw with hnw | hnw
     .grind [Jr]
     .exact g.chk.birth _ _ _ _ h4 ho hx hnw hc
 have stepAt: ∀k,k<p->((f (k+1)).mem =(f k).mem /\(f (k+1)).next =(f k).next)\/ ∃cells ty,(f (k+1)).mem =Wm (f k).mem (f k).next (some ⟨cells,ty,none⟩)/\(f (k+1)).next =(f k).next +1:=by
  intro k hk;obtain ⟨o,ho,s⟩:=g.step' (k:=k) (by omega);rcases Mg z o with h | h | h | h
  .exact .inl (s.stay (by rcases h with h | h <;> simp [h]))
  .exact .inl (s.stay (.inr (.inl h)))
  .obtain ⟨cells,ty,h1,h2,_⟩:=s.fresh (g.ob _ (by omega)) h (g.chk.guard _ o ho h)
   grind
  grind
 have start: ∀k,k<=p->CB ρ (f k).mem (f k).next w/\Ev ρ ρ cx.floor st.mem st.next (f k).mem (f k).next w w:=by
  intro k
  induction k with
  | zero=>intro _;rw [g.f0];exact ⟨eB,Ev.refl _ _ _ _ _ eB.dom⟩
  | succ k ih=>
   intro hk;obtain ⟨hr,he⟩:=ih (by omega);rcases stepAt k (by omega) with ⟨h3,h4⟩ | ⟨cells,ty,h3,h4⟩
   .grind
   .rw [h3,h4];refine ⟨hr.unborn _,he.trans ⟨B9.le_refl _,fun _ _=>rfl,BY _,fun b hb _ cs ty hm=>by grind [Zw],fun _ _ h _=>h,fun b l hb hl=>by have:=hr.dom b l hl;omega,Aj _,rfl,rfl,rfl,fun _ _=>rfl⟩⟩
 have later: ∀k k',(f (k+1)).next =(f k).next +1->k<k'->k'<=p->(f k).next <(f k').next /\Yi (f k').mem (f k).next =Yi (f (k+1)).mem (f k).next :=by
  intro k k' hk1 hk
  induction k' with
  | zero=>omega
  | succ k' ih=>
   intro hk';by_cases e:k=k'
   .grind
   .obtain ⟨h1,h2⟩:=ih (by omega) (by omega);rcases stepAt k' (by omega) with ⟨h3,h4⟩ | ⟨cells,ty,h3,h4⟩;all_goals grind [Zw]
 obtain ⟨hrp,hep⟩:=start p (Aj _);refine ⟨p,?_,hd,eG.size,?_,?_,hp,hpk,?_,hrp,hep,fun k q o x b ab _ hqp _ _ hx _ hc=>absurd hc (noch q x hqp hx),?_⟩
 .intro j o _ hs;grind
 .grind
 .intro t _;exact eG.get t
 .grind
 .intro k o hk ho hnw _;have hkp:k<p:=hpk k o hk ho hnw;obtain ⟨o',ho',s⟩:=g.step' (k:=k) hk;rw [ho] at ho';obtain rfl:=Ag ho';obtain ⟨cells,ty,h3,h4,_⟩:=s.fresh (g.ob _ (by omega)) hnw (g.chk.guard _ o ho hnw);obtain ⟨h5,h6⟩:=later k p h4 hkp (Aj _);have hge:st.next<=(f k).next :=by have:=g.next_le (a:=0) (b:=k) (AH _) (by omega);rw [g.f0] at this;exact this
  refine ⟨hge,h5,?_,h6⟩;cases e:ρ (f k).next with
  | none=>rfl
  | some l=>have:=eB.dom _ l e;omega
theorem y0p {S:B7} {R:CF} (hN:EC P) (hS:Zv P S) (hRI:E9 R) (hR:GY P R) {st':St} (hcx:cx.floor<=st.next) (eY:MX z ops=true)
  (h:QD z P S R ops cx (Ij ops) [] st=some st') (ho:st'.ob=true) {ρ:B9} {a:Act} {w:World} (hd:a.defers=D) (eG:Vg ρ st.env cx.n a.tmps) (eB:CB ρ st.mem st.next w):
  wpAny P .any ops (I9 D ρ cx st st' w) ops.size (Array.replicate ops.size false) a w:=by
 obtain ⟨f,f0,fn,fs,_,fp⟩:=Yl (Ij ops) [] st st' h;have eC:(Ij ops).length =ops.size:=by simp [Ij,Xt]
 rw [eC] at fn;have fD: ∀(k:Nat) (hk:k<(Yq ops).length),cx.floor<=(f k).next ->XW S z P ops cx (Ds ops (Yq ops)[k],ops.getD (Yq ops)[k] default) (f k) (f (k+1)):=by
  grind [Ij,w7e]
 have hnx: ∀k,k<=ops.size->cx.floor<=(f k).next :=by
  intro k
  induction k with
  | zero=>grind
  | succ k ih=>intro hk;have hc:=ih (by omega);exact AP hc (fD k (by rw [Xt];omega) hc).inv.nxt
 have hob: ∀k,k<=ops.size->(f (ops.size - k)).ob =true:=by
  intro k
  induction k with
  | zero=>grind
  | succ k ih=>
   intro hk;have hk':ops.size - (k+1)<(Yq ops).length :=by rw [Xt];omega
   have s:=fD _ hk' (hnx _ (by omega));refine s.inv.ob ?_
   grind
 have g:DK S z P ops cx st f:=⟨YT eY,f0,hcx,fun k hk=>by
  have:=hob (ops.size - k) (by omega);rwa [show ops.size - (ops.size - k)=k by omega] at this,fun k hk=>fD k hk (hnx k (by rw [Xt] at hk;omega)),fun q k hq hk=>by
   have:=fp q k hq (by grind [Xt]);simp_all [Ij]⟩
 obtain ⟨p,I⟩:=v5w g hd eG eB;have:=u3u g eG.out eB.bd ops.size (Array.replicate ops.size false) p ρ a w (by simp) (by
  rw [List.countP_eq_length.2];all_goals simp_all) I
 grind
theorem x1a {S:B7} {R:CF} (hRI:E9 R): ∀(l:List (Bool×Oper)) (st st':St),XM P S R ops cx l st=some st'->Xi cx.floor st st'
 | [],st,st',h=>by
  have h:some st=some st':=h
  grind [Xi.refl]
 | x::l,st,st',h=>by
  rw [y7c,Option.bind_eq_some_iff] at h;obtain ⟨st1,h1,h2⟩:=h;refine Xi.trans ?_ (x1a hRI l st1 st' h2);unfold HV at h1;split at h1
  .cases h1
  .rename_i st2 hw;obtain ⟨w1,w2,w3⟩:=Wr hw;refine (Xi.same w1 w2 fun h=>(w3 h).1).trans ?_;unfold MZ at h1;split at h1
   .split at h1
    .rename_i st3 ho;obtain ⟨_,e2,e3,e4⟩:=Wa ho;obtain ⟨p1,p2,p3,_⟩:=Vp h1;exact (Xi.same e2 e3 fun h=>(e4 h).2).trans (Xi.same p1 p2 fun h=>by rw [<-p3];exact h)
    .cases h1
   .split at h1
    .rename_i v st3 he;obtain ⟨p1,p2,p3,_⟩:=Vp h1;exact (y9d hRI he).1.trans (Xi.same p1 p2 fun h=>by rw [<-p3];exact h)
    .cases h1
  .rename_i st2 hw;obtain ⟨w1,w2,w3⟩:=Wr hw;obtain ⟨p1,p2,p3,_⟩:=Vp h1;exact (Xi.same w1 w2 fun h=>(w3 h).1).trans (Xi.same p1 p2 fun h=>by rw [<-p3];exact h)
theorem v2d {S:B7} {R:CF} (hRI:E9 R) {x:Bool×Oper} {st st':St} (h:M7 z P S R ops cx x st=some st'):Xi cx.floor st st':=by
 unfold M7 at h;cases hz:Mb z x.2.op with
 | false=>
  rw [hz,Ab] at h;cases hz2:isBirth z x.2.op with
  | true=>
   rw [hz2,Af] at h;split at h
   .cases h
   .rename_i st2 hw;obtain ⟨w1,w2,w3⟩:=Wr hw;unfold ZK at h;split at h
    .split at h
     .obtain ⟨p1,p2,p3,_⟩:=Vp h;exact ((Xi.same w1 w2 fun h=>(w3 h).1).trans (Xi.new _ _ _)).trans (Xi.same p1 p2 fun h=>by grind)
     .cases h
    .cases h
   .rename_i st2 hw;obtain ⟨w1,w2,w3⟩:=Wr hw
    grind [Vp,Xi.same]
  | false=>rw [hz2,Ab] at h;exact x1a hRI [x] st st' (by rw [y7c,h];rfl)
 | true=>
  rw [hz,Af] at h;split at h
  .cases h
  .rename_i st2 hw;obtain ⟨w1,w2,w3⟩:=Wr hw
   grind [w1o,Vp,Xi.same]
  .rename_i st2 hw;obtain ⟨w1,w2,w3⟩:=Wr hw
   grind [Vp,Xi.same]
theorem y7d {S:B7} {R:CF} (hRI:E9 R) (l:List (Nat×Bool×Oper)) (acc:List D3) (st st':St) (h:QD z P S R ops cx l acc st=some st'):Xi cx.floor st st':=by
 obtain ⟨f,f0,fn,fs,_,_⟩:=Yl l acc st st' h;have: ∀k,k<=l.length->Xi cx.floor st (f k):=by
  intro k
  induction k with
  | zero=>intro _;rw [f0];exact Xi.refl _ _
  | succ k ih=>
   intro hk;refine (ih (by omega)).trans ?_
   grind [v2d]
 grind
end
section
variable {P:Program}
theorem x5w {H:Do} {w:World} (hH: ∀k o,H k=some o->w.heap[k]? =some o) (hG:Glob H):CB (DI H) .leaf 0 w:=
 ⟨(fun b l h=>by cases h),(fun b b' l l' h=>by cases h),(fun b l ab h=>by cases h),hH,(fun b l h=>by cases h),(fun b l h=>by cases h),(fun b _=>rfl),(fun j l h=>by cases h),hG⟩
structure Out (H:Do) (w:World) (ρ:B9) (v:B5) (u:Value) (w':World):Prop where
 val:Zn ρ v u
 le: ∀k o,H k=some o->ρ.fz k=some o
 old: ∀k o,ρ.fz k=some o->w'.heap[k]? =some o
 same: ∀k,k<w.heap.size->ρ.fz k=H k
 below:RowKit.Below w.heap.size w w'
theorem Nz {H:Do} {w w':World} {ρ:B9} {v:B5} {u:Value} {mem:CE} {next floor:Nat} (hv:Zn ρ v u) (hr:CB ρ mem next w') (hev:Ev (DI H) ρ floor .leaf 0 mem next w w'):Out H w ρ v u w':=
 ⟨hv,hev.ext.2.1,hr.old,hev.still,hev.os,hev.tape,hev.output,hev.size,fun k hk=>by
  have:w.heap[k]? =some w.heap[k]:=by simp [hk]
  rw [this];exact hev.frame k _ this fun b l hl=>by cases hl⟩
def Dh :B7:=fun _=>none
theorem Zp :Zv P Dh:=fun f F h=>by cases h
end
end Go.Am
end
