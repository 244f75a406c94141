/- A part of a proof: several texts in one. -/
import Derived.Test.YthnnmgkacjjpeaaGreatDoorNb0
import Derived.IntWalk
set_option maxRecDepth 1000000
set_option maxHeartbeats 8000000
set_option linter.unusedVariables false
set_option linter.unusedSimpArgs false
noncomputable section
namespace Go.Am
open IntKind (wrap)
section
variable {P:Program} {ρ:B7}
theorem YI {t u e:TypeId} {ut:TypeDesc} {i:TypeInfo} {type:TypeId} (hu:P.underlying t=some (.slice e)) (hut:P.underlying u=some ut) (hni: ∀k,ut≠ .int k) (hi:P.info? e=some i) {ts:List TypeId} {base:Option Addr} {len n c:Nat} {x:Value} {vs:Array Value} {xs:List Value} {w:World}
  (eE:(Builtin.lenOf x).run P w=.ok n w) (eW:(Builtin.firstCells i.size n x).run P w=.ok vs w) (eK:len+n<=c) {w':World}
  (hst: ∀a,base=some a->(storeCells (a.add (len*i.size)) vs.toList).run P w=.ok () w') (hno:base=none->w'=w):
  (Builtin.append_ (t::u::ts).toArray type ((.slice base len c)::x::xs).toArray).run P w=.ok (.slice base (len+n) c) w':=by
 cases base with
 | none=>obtain rfl:=hno rfl;simp [Builtin.append_,run_underlying hu,run_underlying hut,Zn hi,eE,eW,eK]
 | some a=>have:=hst a rfl;simp [Builtin.append_,run_underlying hu,run_underlying hut,Zn hi,eE,eW,eK,this]
theorem YN {t u e:TypeId} {ut:TypeDesc} {i:TypeInfo} {type:TypeId} (hu:P.underlying t=some (.slice e)) (hut:P.underlying u=some ut) (hni: ∀k,ut≠ .int k) (hi:P.info? e=some i) {z:Value} (hz:i.zero=some z) {ts:List TypeId} {base:Option Addr} {len n c:Nat} {x:Value} {vs old:Array Value} {xs:List Value} {w:World}
  (eE:(Builtin.lenOf x).run P w=.ok n w) (eW:(Builtin.firstCells i.size n x).run P w.drew=.ok vs w.drew) (hold:(Builtin.firstCells i.size len (.slice base len c)).run P w.drew=.ok old w.drew)
  (eK:c<len+n) (fD:(len+n+1)*(i.bytes+1)<=1099511627776):
  ∃newCap,len+n<=newCap/\ ∃rest:Array Value,rest.size=(newCap - (len+n))*z.cells.size/\
  (Builtin.append_ (t::u::ts).toArray type ((.slice base len c)::x::xs).toArray).run P w=.ok (.slice (some ⟨w.heap.size,0,none⟩) (len+n) newCap) (w.drew.alloc (.cells (old++vs++rest) e)):=by
 have hmul:len+n+1<=(len+n+1)*(i.bytes+1):=Nat.le_mul_of_pos_right _ (by omega);have hr:=v4n fD eK;have hr': ¬2 ^ 48<Builtin.nextslicecap (len+n) c*i.bytes:=hr;have hr'': ¬281474976710656<Builtin.nextslicecap (len+n) c*i.bytes:=hr;have h1: ¬len+n<=c:=by omega
 have h2: ¬(9223372036854775807<(len:Int)+(n:Int)):=by omega
 have hq:(Question.appendCap (len+n) c e).forced =false:=rfl;have hzero: ∀w,(zeroValue e).run P w=.ok z w:=fun w=>by simp [zeroValue,run_typeInfo w hi,hz]
 refine ⟨(Question.appendCap (len+n) c e).cut (w.tape w.drawn (Question.appendCap (len+n) c e)),by simp only [Question.cut];omega,Builtin.zeroCells z.cells ((Question.appendCap (len+n) c e).cut (w.tape w.drawn (Question.appendCap (len+n) c e)) - (len+n)),by simp [Builtin.zeroCells],?_⟩;have hty: ∀w,(typeInfo e).run P w=.ok i w:=fun w=>run_typeInfo w hi;simp [Builtin.append_,run_underlying hu,run_underlying hut,Zn hi,eE,h1,h2,hty,hr'',hq,eW,hold,hzero,newRow]
theorem Uj.append {a b:List B3} {us vs:Array Value} (h:Uj ρ a us) (k:Uj ρ b vs):Uj ρ (a++b) (us++vs):=by
 refine ⟨by simp [h.1,k.1],fun i h1 h2=> ?_⟩;by_cases hi:i<a.length
 .rw [BI hi,Array.getElem_append_left (by rw [<-h.1];exact hi)];exact h.2 i hi (by rw [<-h.1];exact hi)
 .rw [Br (by omega),Array.getElem_append_right (by rw [<-h.1];omega)];have e:=h.1;simp only [e];exact k.2 (i - us.size) (by grind) (by grind)
theorem UN {st:St} {w:World} (h:B9 ρ st.mem st.next w) (floor:Nat) {cs:List B3} {vs:Array Value} (hr:Uj ρ cs vs) (rest:Array Value) (ty el:TypeId) (v:B3) (u:Value)
  (eV: ∀ρ',ρ' st.next=some ⟨w.heap.size,0,cs.length,vs.size+rest.size⟩->Zr ρ' v u) (hel:el=ty:=by rfl):
  DX ρ floor st (Cj st cs ty) v w (Ux ρ st.next ⟨w.heap.size,0,cs.length,vs.size+rest.size⟩) u (w.drew.alloc (.cells (vs++rest) el)):=by
 have hd:B9 ρ st.mem st.next w.drew:=h.drawn _
 have:=PI hd floor cs ty (vs++rest) el (by rw [hr.1];simp) (fun i h1 h2=>by
  rw [Array.getElem_append_left (by rw [<-hr.1];exact h1)];exact hr.2 i h1 (by rw [<-hr.1];exact h1)) v u (fun ρ' hρ'=>eV ρ' (by simp_all)) hel
 simp only [Array.size_append] at this;exact ⟨this.val,this.rel,this.ev.drawn⟩
theorem Qr {α:Type} {c:Bool} {x:Option α} {y:α} (h:(bif c then x else none)=some y):c=true/\x=some y:=by grind
structure W5 (P:Program) (ρ:B7) (t u e:TypeId) (i:TypeInfo) (z:Value) (ux:Value) (n:Nat) (new:List B3) (vs:Array Value) (w:World):Prop where
 rel:Uj ρ new vs
 hin: ∀{type:TypeId} {ts:List TypeId} {base:Option Addr} {len c:Nat} {xs:List Value},(n=0\/(n+1)*(i.bytes+1)<=1099511627776)->len+n<=c-> ∀{w':World},(∀a,base=some a->(storeCells (a.add (len*i.size)) vs.toList).run P w=.ok () w')->(base=none->w'=w)->
  (Builtin.append_ (t::u::ts).toArray type ((.slice base len c)::ux::xs).toArray).run P w=.ok (.slice base (len+n) c) w'
 hnew: ∀{type:TypeId} {ts:List TypeId} {base:Option Addr} {len c:Nat} {xs:List Value} {old:Array Value},(Builtin.firstCells i.size len (.slice base len c)).run P w.drew=.ok old w.drew->c<len+n->(len+n+1)*(i.bytes+1)<=1099511627776->
  ∃newCap,len+n<=newCap/\ ∃rest:Array Value,rest.size=(newCap - (len+n))*z.cells.size/\
   (Builtin.append_ (t::u::ts).toArray type ((.slice base len c)::ux::xs).toArray).run P w=.ok (.slice (some ⟨w.heap.size,0,none⟩) (len+n) newCap) (w.drew.alloc (.cells (old++vs++rest) e))
theorem x0r {n:Int} {bytes:Nat} (h0:0<=n) (h:n.toNat=0\/(n.toNat+1)*(bytes+1)<=1099511627776):IntKind.i64.wrap n=n/\n*(bytes:Int)<=281474976710656:=by
 grind [IntWalk.i64_in]
theorem Jt {mem:CD} {next:Nat} {w:World} (h:B9 ρ mem next w) {t u e:TypeId} {ut:TypeDesc} {i:TypeInfo} {z:Value} {zero:List B3} {x:B3} {ux:Value} {n:Nat} {new:List B3} (hu:P.underlying t=some (.slice e)) (hut:P.underlying u=some ut) (hi:P.info? e=some i) (hz:i.zero=some z)
  (hzr:Uj ρ zero z.cells) (hzl:zero.length=i.size) (hc:Jv mem i.size zero ut x=some (n,new)) (hx:Zr ρ x ux) (hnl:new.length=n*i.size): ∃vs,W5 P ρ t u e i z ux n new vs w:=by
 unfold Jv at hc;split at hc
 .rename_i kt;split at hc
  .rename_i k m;obtain ⟨h0,hc⟩:=Qr hc;have h0:=Av h0;simp only [Ae,Ac] at hc;obtain ⟨rfl,rfl⟩:=hc;cases hx;have hzs:z.cells.size=i.size:=by rw [<-hzr.1];exact hzl
   refine ⟨Builtin.zeroCells z.cells m.toNat,?_,?_,?_⟩
   .exact P3 hzr m.toNat (m.toNat*z.cells.size) (by rw [hzr.1])
   .intro type ts base len c xs hr eK w' hst hno;obtain ⟨hw,hb⟩:=x0r h0 hr;have hb': ¬281474976710656<m*(i.bytes:Int):=(by omega);have hlt: ¬m<0:=(by omega);have hzv: ∀w,(zeroValue e).run P w=.ok z w:=fun w=>by simp [zeroValue,run_typeInfo w hi,hz]
    have hty: ∀w,(typeInfo e).run P w=.ok i w:=fun w=>run_typeInfo w hi;by_cases hz0:m.toNat*i.size=0
    .have hze:Builtin.zeroCells z.cells m.toNat= #[]:=(by simp [Builtin.zeroCells,hzs,hz0]);rw [hze] at hst;cases base with
     | none=>obtain rfl:=hno rfl;simp [Builtin.append_,run_underlying hu,run_underlying hut,Zn hi,asInt,asIntOf,hw,hlt,hty,hb',eK,hz0]
     | some a=>have:=hst a rfl;simp only [] at this;simp [Builtin.append_,run_underlying hu,run_underlying hut,Zn hi,asInt,asIntOf,hw,hlt,hty,hb',eK,hz0,this]
    .cases base with
     | none=>obtain rfl:=hno rfl;simp [Builtin.append_,run_underlying hu,run_underlying hut,Zn hi,asInt,asIntOf,hw,hlt,hty,hb',eK,hz0,hzv]
     | some a=>have:=hst a rfl;simp [Builtin.append_,run_underlying hu,run_underlying hut,Zn hi,asInt,asIntOf,hw,hlt,hty,hb',eK,hz0,hzv,this]
   .intro type ts base len c xs old hold eK fD;have hr:m.toNat=0\/(m.toNat+1)*(i.bytes+1)<=1099511627776:=.inr (AN (AE _ (by omega)) fD);obtain ⟨hw,hb⟩:=x0r h0 hr;have hb': ¬281474976710656<m*(i.bytes:Int):=(by omega);have hlt: ¬m<0:=(by omega);have hmul:len+m.toNat+1<=(len+m.toNat+1)*(i.bytes+1):=Nat.le_mul_of_pos_right _ (by omega);have hr0:=v4n fD eK;have hr'': ¬281474976710656<Builtin.nextslicecap (len+m.toNat) c*i.bytes:=hr0;have h1: ¬len+m.toNat<=c:=(by omega);have h2: ¬(9223372036854775807<(len:Int)+(m.toNat:Int)):=(by omega);have h2': ¬(9223372036854775807<(len:Int)+max m 0):=(by omega);have hq:(Question.appendCap (len+m.toNat) c e).forced =false:=rfl;have hzv: ∀w,(zeroValue e).run P w=.ok z w:=fun w=>by simp [zeroValue,run_typeInfo w hi,hz]
    have hty: ∀w,(typeInfo e).run P w=.ok i w:=fun w=>run_typeInfo w hi;refine ⟨(Question.appendCap (len+m.toNat) c e).cut (w.tape w.drawn (Question.appendCap (len+m.toNat) c e)),by simp only [Question.cut];omega,Builtin.zeroCells z.cells ((Question.appendCap (len+m.toNat) c e).cut (w.tape w.drawn (Question.appendCap (len+m.toNat) c e)) - (len+m.toNat)),by simp [Builtin.zeroCells],?_⟩;by_cases hz0:m.toNat*i.size=0
    .have hze:Builtin.zeroCells z.cells m.toNat= #[]:=(by simp [Builtin.zeroCells,hzs,hz0]);simp [Builtin.append_,run_underlying hu,run_underlying hut,Zn hi,asInt,asIntOf,hw,hlt,hb',h1,h2,h2',hty,hr'',hq,hold,hzv,newRow,hz0,hze]
    .simp [Builtin.append_,run_underlying hu,run_underlying hut,Zn hi,asInt,asIntOf,hw,hlt,hb',h1,h2,h2',hty,hr'',hq,hold,hzv,newRow,hz0]
  .cases hc
 .rename_i hni';have hni: ∀k,ut≠ .int k:=fun k hk=>hni' k hk;obtain ⟨eE,eW⟩:=Uw (P:=P) h hc hx hnl;obtain ⟨vs,hvs,hfc⟩:=eW n (An _);rw [A9 (by omega)] at hvs;have fZ:(Builtin.firstCells i.size n ux).run P w=.ok vs w:=hfc w.drawn;have hfc1:(Builtin.firstCells i.size n ux).run P w.drew=.ok vs w.drew:=hfc (w.drawn+1);exact ⟨vs,hvs,fun _ eK _ hst hno=>YI hu hut hni hi (eE w) fZ eK hst hno,fun hold eK fD=>YN hu hut hni hi hz (eE w) hfc1 hold eK fD⟩
theorem x6v {w:World} {x:Obj} {n:Nat} {k:Nat} {o:Obj} (h:w.heap[k]? =some o):(World.alloc {w with drawn:=n} x).heap[k]? =some o:=by
 have:k<w.heap.size:=(AB.1 h).1;show (w.heap.push x)[k]? =some o
 grind
theorem x9w {w:World} {k:Nat} {cur:Array Value} {el:TypeId} {vs:List Value} {m:Nat} (hw:w.heap[k]? =some (.cells cur el (0,0))) (hm:m+vs.length<=cur.size):
  ∃cs1,(w.setRow k (cur.toList.take m++vs++cur.toList.drop (m+vs.length)).toArray).heap[k]? =some (.cells cs1 el (0,0))/\cs1.size=cur.size/\ ∀j,j<m->cs1[j]? =cur[j]? :=by
 have hc:cur.toList.length=cur.size:=Array.length_toList;refine ⟨_,setRow_heap w k cur _ el (0,0) hw,by simp;omega,fun j hj=> ?_⟩
 grind
def j6k (ρ:B7) (m:CD) (xs:List B3) (w w':World):Prop:=
 (∀(b off len z b2 o2 n2:Nat) (c2:Ec) (r:List B3) (blk:B8) (l:CR),xs=.sl b off len (.un z)::.sl b2 o2 n2 c2::r->1<=n2->Yi m b=some blk->off+len*z=blk.cells.length->ρ b=some l->Wt ρ w' blk l)/\
 ∀r:List B3,xs=.nils ::r-> ∀(k:Nat) (o:Obj),w.heap[k]? =some o->w'.heap[k]? =some o
theorem w1y {m:CD} {sz:Nat} {zero:List B3} {ut:TypeDesc} {b o n2:Nat} {c:Ec} {n:Nat} {new:List B3} (h:Jv m sz zero ut (.sl b o n2 c)=some (n,new)):n=n2:=by
 have key:Xq m sz (.sl b o n2 c)=some (n,new)->n=n2:=fun h=>by
  simp only [Xq] at h;cases hm:Yi m b with
  | none=>grind
  | some blk=>rw [hm] at h;obtain ⟨_,h⟩:=Lg h;simp_all
 cases ut <;> first | exact key h | (cases h;done)
theorem UZ {st st' :St} {w:World} (h:B9 ρ st.mem st.next w) (floor:Nat) {ts:Array TypeId} {type:TypeId} {xs:List B3} {us:Array Value} {v:B3} (ha:Fr P floor st ts.toList xs=some (v,st')) (hx:Vo (Zr ρ) xs us.toList) (hty:tyOk P st.mem ts.toList xs=true):
  ∃ρ' u w',(Builtin.append_ ts type us).run P w=.ok u w'/\DX ρ floor st st' v w ρ' u w'/\(st'.env=st.env/\st'.ob=st.ob)/\j6k ρ st.mem xs w w':=by
 obtain ⟨ts⟩:=ts;obtain ⟨us⟩:=us;simp only at ha hx;unfold Fr at ha;split at ha
 .rename_i t tu tts s x txs;cases hx with
  | @cons _ su _ _ hs hx=>
   cases hx with
   | @cons _ ux _ uxs hx _=>
    split at ha
    .rename_i e ut hu hut;split at ha
     .rename_i i zero hi hz;split at ha
      .rename_i n new hcs;obtain ⟨i2,z,hi2,hz2,hzr,_⟩:=Wi (ρ:=ρ) hz;obtain rfl:i=i2:=by grind
       cases hc:(Nat.beq zero.length i.size&&Nat.beq new.length (n*i.size)&&Nat.ble 1 i.size&&new.all Cg) with
       | false=>grind
       | true =>
        rw [hc,Af] at ha;simp only [Ad] at hc;obtain ⟨⟨⟨hzl,hnl⟩,hsz⟩,hsc⟩:=hc;have hzl:=Ah hzl;have hnl:=Ah hnl;have hsz:=Aj hsz;have hzs:z.cells.size=i.size:=by rw [<-hzr.1];exact hzl
        obtain ⟨vs,hF⟩:=Jt (P:=P) h hu hut hi hz2 hzr hzl hcs hx hnl;have hvs:=hF.rel;have hvsz:vs.size=n*i.size:=by rw [<-hvs.1];exact hnl
        have eU:=Zr.cells_oneCell hvs hsc;split at ha
        ·-- nil
         cases hs;cases hn0:Nat.beq n 0 with
         | true=>rw [hn0,Af] at ha;simp only [Ae,Ac] at ha;obtain ⟨rfl,rfl⟩:=ha;have hn0:=Ah hn0;subst hn0;have eH:=hF.hin (type:=type) (ts:=tts) (base:=none) (len:=0) (c:=0) (xs:=uxs) (.inl rfl) (An _) (w':=w) (fun a e=>by cases e) (fun _=>rfl);exact ⟨ρ,_,w,eH,⟨.nils,h,Ev.refl _ _ _ _ _ h.dom⟩,⟨rfl,rfl⟩,(fun _ _ _ _ _ _ _ _ _ _ _ e=>by cases e),fun _ _ _ _ h=>h⟩
         | false=>
          rw [hn0,Ab] at ha;cases hrm:Nat.ble ((n+1)*(i.bytes+1)) Ve with
          | false=>grind
          | true=>
           rw [hrm,Af] at ha;simp only [Ae,Ac] at ha;obtain ⟨rfl,rfl⟩:=ha;have hrm:=Aj hrm;have hnpos:0<n:=by
            grind
           obtain ⟨newCap,eM,rest,eP,eH⟩:=hF.hnew (type:=type) (ts:=tts) (base:=none) (len:=0) (c:=0) (xs:=uxs) (old:= #[]) (by simp [Builtin.firstCells]) (by omega) (by simpa [Ve] using hrm);simp only [Al,Array.empty_append] at eH eM eP;have hsum:vs.size+rest.size=newCap*i.size:=by rw [hvsz,eP,hzs,<-AV];grind
           refine ⟨_,_,_,eH,UN h floor hvs rest e e _ _ (fun ρ' hρ'=> ?_),⟨rfl,rfl⟩,(fun _ _ _ _ _ _ _ _ _ _ _ e=>by cases e),fun _ _ k o h=>x6v h⟩;refine .sl _ 0 _ _ _ _ hρ' ?_ eM
           grind [DM]
        ·-- a slice
         rename_i b off len cap;split at ha
         .rename_i blk hm;split at ha
          .rename_i old hold;cases hrm: !blk.isObj&&Nat.ble ((len+n+1)*(i.bytes+1)) Ve with
           | false=>grind
           | true =>
            rw [hrm,Af] at ha;simp only [Ad,Be] at hrm;obtain ⟨hno,hrm⟩:=hrm;have hrm:=Aj hrm;have hrn:n=0\/(n+1)*(i.bytes+1)<=1099511627776:=.inr (AN (AE _ (by omega)) hrm);cases hs with
            | sl _ _ _ _ l c hρ eM hlc=>
             obtain ⟨hpold,holdl,holdle⟩:=L4 hold;have fM:=(h.blk b l blk hρ hm).at hno;have hln:=fM.n;have hmul:(len+n)*i.size=len*i.size+n*i.size:=AV _ _ _;have hoff:off+len*i.size<=blk.cells.length\/len*i.size=0:=(by omega);have hcos:Xq st.mem i.size (.sl b off len cap)=some (len,old):=(by simp [Xq,hm,hold,hno]);obtain ⟨_,hfo⟩:=Uw (P:=P) h hcos (.sl b off len cap l c hρ eM hlc) holdl;obtain ⟨ovs,hovs,hof⟩:=hfo len (An _);rw [A9 (by omega)] at hovs;have hovz:ovs.size=len*i.size:=by rw [<-hovs.1];exact holdl
             have hof1:(Builtin.firstCells i.size len (.slice (some ⟨l.blk,l.base+off,none⟩) len c)).run P w.drew=.ok ovs w.drew:=hof (w.drawn+1);have inplace: ∀v st',len+n<=c->floor<=b->off+(len+n)*i.size<=blk.cells.length->
               some (B3.sl b off (len+n) cap,st.withMem (Wx st.mem b (some ⟨blk.cells.take (off+len*i.size)++new++blk.cells.drop (off+(len+n)*i.size),blk.ty,none⟩)))=some (v,st')->(∀z,cap=.un z->z=i.size)->
               ∃ρ' u w',(Builtin.append_ (t::tu::tts).toArray type ((.slice (some ⟨l.blk,l.base+off,none⟩) len c)::ux::uxs).toArray).run P w=.ok u w'/\DX ρ floor st st' v w ρ' u w'/\(st'.env=st.env/\st'.ob=st.ob)/\j6k ρ st.mem (.sl b off len cap::x::txs) w w':=by
              intro v st' eK hfl eO he hzc;simp only [Ae,Ac] at he;obtain ⟨rfl,rfl⟩:=he;obtain ⟨cur,el,hw,hcsz,eD⟩:=h.write hρ hm (off:=off+len*i.size) (cs:=new) (vs:=vs.toList) hno (by grind) (by omega) (fun j h1 h2=>by simpa using hvs.2 j h1 (by grind));have hst:=run_storeCells_at P l.blk (l.base+off+len*i.size) el vs.toList 0 cur w hw (by grind) eU;rw [Bn] at hst;have eH:=hF.hin (type:=type) (ts:=tts) (base:=some ⟨l.blk,l.base+off,none⟩) (len:=len) (c:=c) (xs:=uxs) hrn eK (w':=w.setRow l.blk (cur.toList.take (l.base+off+len*i.size)++vs.toList++cur.toList.drop (l.base+off+len*i.size+vs.toList.length)).toArray)
               (fun a e=>by cases e;rw [Xa];exact hst) (fun e=>by cases e)
              refine ⟨ρ,_,_,eH,⟨.sl _ _ _ _ l c hρ eM (by omega),?_,Ev.ofWrite h hρ hfl _ _⟩,⟨rfl,rfl⟩,(fun b' off' len' z b2 o2 n2 c2 r blk' l' e hn hm' hend hl'=> ?keep),fun _ e=>by cases e⟩
              case keep=>exfalso;cases e;obtain rfl:=hzc _ rfl;rw [hm] at hm';obtain rfl:=Ag hm';obtain rfl:=w1y hcs;have:1*i.size<=n*i.size:=AE _ hn;omega
              have e1:off+len*i.size+new.length=off+(len+n)*i.size:=(by omega);rw [e1] at eD
              simpa only [St.withMem,AO] using eD
             have anew: ∀v st' (st1:St),c<len+n->B9 ρ st1.mem st1.next w->Ev ρ ρ floor st.mem st.next st1.mem st1.next w w->st1.env=st.env->st1.ob=st.ob->
               some (B3.sl st1.next 0 (len+n) (.un i.size),Cj st1 (old++new) e)=some (v,st')->
               ∃ρ' u w',(Builtin.append_ (t::tu::tts).toArray type ((.slice (some ⟨l.blk,l.base+off,none⟩) len c)::ux::uxs).toArray).run P w=.ok u w'/\DX ρ floor st st' v w ρ' u w'/\(st'.env=st.env/\st'.ob=st.ob)/\j6k ρ st.mem (.sl b off len cap::x::txs) w w':=by
              intro v st' st1 eK fE hev1 eI hob he;simp only [Ae,Ac] at he;obtain ⟨rfl,rfl⟩:=he;obtain ⟨newCap,gA,rest,eP,eH⟩:=hF.hnew (type:=type) (ts:=tts) (base:=some ⟨l.blk,l.base+off,none⟩) (len:=len) (c:=c) (xs:=uxs) hof1 eK (by simpa [Ve] using hrm);have hov:=hovs.append hvs;have hsum:(ovs++vs).size +rest.size=newCap*i.size:=by rw [Array.size_append,hovz,hvsz,eP,hzs,<-AV,<-AV];grind
              have hp:=UN fE floor hov rest e e (.sl st1.next 0 (len+n) (.un i.size)) (.slice (some ⟨w.heap.size,0,none⟩) (len+n) newCap) (fun ρ' hρ'=>by
               refine .sl _ 0 _ _ _ _ hρ' ?_ gA
               grind [DM])
              refine ⟨_,_,_,eH,⟨hp.val,hp.rel,hev1.trans hp.ev⟩,⟨?_,?_⟩,(fun b' off' len' z b2 o2 n2 c2 r blk' l' e hn hm' hend hl'=> ?keep),fun _ e=>by cases e⟩
              case keep=>have hq:=h.blk b' l' blk' hl' hm';refine hq.world (B7.le_refl ρ) ?_;obtain ⟨_,g1⟩:=hq.some;rw [g1];exact x6v g1
              all_goals simp_all [Cj]
             split at ha
             ·-- the capacity is known
              rename_i k;simp only [DM] at eM;subst eM;cases hk:Nat.ble (len+n) c with
              | true=>
               rw [hk,Af] at ha;have hk:=Aj hk;cases hf:(Nat.ble floor b&&Nat.ble (off+(len+n)*i.size) blk.cells.length) with
               | false=>grind
               | true=>rw [hf,Af] at ha;simp_all
              | false=>
               rw [hk,Ab] at ha;have hk: ¬len+n<=c:=fun e=>by rw [A0 e] at hk;cases hk
               exact anew _ _ st (by omega) h (Ev.refl _ _ _ _ _ h.dom) rfl rfl ha
             ·-- it is not
              rename_i zz;simp only [DM] at eM;cases hf:(Nat.beq zz i.size&&Nat.ble floor b) with
              | false=>grind
              | true=>
               rw [hf,Af] at ha;simp only [Ad] at hf;have hzz:=Ah hf.1;have hfl:=Aj hf.2;subst hzz;cases hk:Nat.ble (off+(len+n)*i.size) blk.cells.length with
               | true=>
                rw [hk,Af] at ha;have hk:=Aj hk;have eK:len+n<=c:=by rw [hln] at eM;have:(len+n)*i.size<=c*i.size:=(by omega);exact Nat.le_of_mul_le_mul_right this hsz
                grind
               | false=>
                rw [hk,Ab] at ha;cases hend:Nat.beq (off+len*i.size) blk.cells.length with
                | false=>grind
                | true=>
                 rw [hend,Af] at ha;have hend:=Ah hend;by_cases eK:len+n<=c
                 ·-- there is Ve: behind what is told
                  simp only [Ae,Ac] at ha;obtain ⟨rfl,rfl⟩:=ha;have hcm:(len+n)*i.size<=c*i.size:=AE _ eK;obtain ⟨cur,el,hw,hcsz,eD⟩:=h.beyond hρ hm hno (off:=off) (new:=new) (vs:=vs.toList) e (by grind) (by omega) (by omega) (fun j h1 h2=>by simpa using hvs.2 j h1 (by grind)) (by simpa [tyOk,Iw,hu,hm] using hty);have hst:=run_storeCells_at P l.blk (l.base+off+len*i.size) el vs.toList 0 cur w hw (by grind) eU;rw [Bn] at hst;have eH:=hF.hin (type:=type) (ts:=tts) (base:=some ⟨l.blk,l.base+off,none⟩) (len:=len) (c:=c) (xs:=uxs) hrn eK (w':=w.setRow l.blk (cur.toList.take (l.base+off+len*i.size)++vs.toList++cur.toList.drop (l.base+off+len*i.size+vs.toList.length)).toArray)
                   (fun a e=>by cases e;rw [Xa];exact hst) (fun e=>by cases e)
                  have hod:old=blk.cells.drop off:=by rw [hpold];exact A9 (by simp;omega)
                  refine ⟨_,_,_,eH,⟨.sl _ 0 _ _ ⟨l.blk,l.base+off,blk.cells.length - off+new.length,l.tot - off⟩ c (by simp [Ux]) ?_ (by omega),?_,Ev.ofBeyond h hρ hfl ⟨l.blk,l.base+off,blk.cells.length - off+new.length,l.tot - off⟩ rfl _ _⟩,⟨rfl,rfl⟩,(fun b' off' len' z b2 o2 n2 c2 r blk' l' e hn hm' _ hl'=> ?keep),fun _ e=>by cases e⟩
                  case keep=>
                   cases e;rw [hm] at hm';obtain rfl:=Ag hm';rw [hρ] at hl';obtain rfl:=Ag hl';obtain ⟨q0,q1,q2,q3,cs0,el0,q4,q5,q6⟩:=fM;rw [hw] at q4;obtain ⟨rfl,rfl⟩:cur=cs0/\el=el0:=by
                    grind
                   obtain ⟨cs1,s1,s2,s3⟩:=x9w (vs:=vs.toList) hw (m:=l.base+off+len*i.size) (by grind);refine .plain ⟨by rw [s1];grind,q1,q2,q3,cs1,el,s1,by grind,fun k hk=> ?_⟩;obtain ⟨v,r1,r2⟩:=q6 k hk
                   grind
                  .simp only [DM];omega
                  .rw [hod];have e2:l.base+off+len*i.size=l.base+blk.cells.length:=(by omega);rw [e2]
                   simpa only [Cj,St.withMem] using eD
                 .exact anew _ _ (st.withMem (Wx st.mem b none)) (by omega) (h.kill b) (Ev.ofKill h floor hρ) rfl rfl ha
          .cases ha
         .cases ha
        .cases ha
      .cases ha
     .cases ha
    .cases ha
 .cases ha
theorem w5l {get:Nat->List B3} {off len n sz N:Nat} {new:List B3} (hl: ∀i,i<N->(get i).length =sz) (hN:off+len=N) (hnew:new.length=n*sz):
  (∀i,i<len+n->(Zo get off len sz new i).length =sz)/\rows (len+n) (Zo get off len sz new)=((rows N get).drop (off*sz)).take (len*sz)++new:=by
 have h1: ∀i,i<len+n->(Zo get off len sz new i).length =sz:=fun i hi=>by
  unfold Zo;cases e:Nat.ble len i with
  | true=>
   have:=Aj e;simp only [Af,Bl,Bk,hnew];have:(i - len+1)*sz<=n*sz:=AE sz (by omega)
   grind
  | false=>
   have: ¬len<=i:=fun h=>by rw [A0 h] at e;cases e
   grind
 refine ⟨h1,?_⟩;have eE:=Yq (len+n) h1;have hlenN:=Yq N hl;have hd:((rows N get).drop (off*sz)).length =len*sz:=by rw [Bk,hlenN,<-hN,AV];omega
 rw [A9 (by omega)];apply List.ext_getElem?;intro i;by_cases hi:i<(len+n)*sz
 .have hsz:0<sz:=by
   grind
  have hj:i %sz<sz:=Bw _ hsz;have hq:i / sz<len+n:=Bf (by grind);have e:i=i / sz*sz+i %sz:=by rw [BH];exact (BA i sz).symm
  generalize i / sz=q at*;generalize i %sz=j at*;subst e;rw [Va (len+n) h1 q j hq hj];unfold Zo;cases e:Nat.ble len q with
  | true=>
   have hle:=Aj e;have:len*sz<=q*sz:=AE sz hle;simp only [Af];rw [List.getElem?_append_right (by omega),hd,List.getElem?_take,AG hj,List.getElem?_drop]
   congr 1
   rw [Nat.sub_mul];omega
  | false=>
   have hlt:q<len:=by
    rcases Ba q len with h | h
    .exact h
    .rw [A0 h] at e;cases e
   have:(q+1)*sz<=len*sz:=AE sz hlt;rw [AV,BX] at this;simp only [Ab];rw [List.getElem?_append_left (by omega),List.getElem?_drop,<-Va N hl (off+q) j (by omega) hj]
   grind
 grind
theorem w5m (n:Nat) (z:List B3):Co n z=rows n fun _=>z:=by unfold Co rows;rw [List.flatMap_def,List.map_const',List.length_range]
theorem Ev.remem {ρ':B7} {floor:Nat} {m m' m'':CD} {n n':Nat} {w w':World} (h:Ev ρ ρ' floor m n m' n' w w') (hm: ∀b,b<n-> ∀cs ty,Yi m b=some ⟨cs,ty,none⟩->Yi m'' b=Yi m' b):Ev ρ ρ' floor m n m'' n' w w':=
 ⟨h.ext,h.new,h.nxt,fun b hb e cs ty hc=>by rw [hm b hb cs ty hc];exact h.unborn b hb e cs ty hc,h.frame,h.fresh,h.size,h.os,h.tape,h.output,h.still⟩
theorem B9.remem {mem mem':CD} {next:Nat} {w:World} (h:B9 ρ mem next w) (hm: ∀b,Yi mem' b=Yi mem b):B9 ρ mem' next w:=
 ⟨h.dom,fun b b' l l' e e' he hs hs'=>h.inj b b' l l' e e' he (by grind) (by grind),fun b l ab e hc=>h.blk b l ab e (by grind),h.old,fun b l e hs=>h.sep b l e (by grind),h.real,fun b hb=>by rw [hm];exact h.bd b hb,h.ldom⟩
theorem y2y {cx:CI} {st st':St} {w:World} (h:B9 ρ st.mem st.next w) {t:TypeId} {x y v:B3} {ux uy:Value} (hb:Kv P cx st t x y=some (v,st')) (hob:st'.ob=true) (hx:Zr ρ x ux) (hy:Zr ρ y uy):
  ∃ρ' u w',(Instr.makeSlice t ux uy).run P w=.ok u w'/\DX ρ cx.floor st st' v w ρ' u w':=by
 unfold Kv at hb;split at hb
 .rename_i e kl l kc c hu;split at hb
  .rename_i i zero hi hz;cases fA:(Nat.beq zero.length i.size&&Nat.ble 1 i.size) with
   | false=>grind
   | true=>
    rw [fA,Af] at hb;simp only [Ad] at fA;obtain ⟨k1,k2⟩:=fA;have hzl:=Ah k1;simp only [Ao,Ac] at hb;obtain ⟨st1,ho,rfl,rfl⟩:=hb;obtain ⟨o1,o2,o3,o4⟩:=R1 ho;obtain ⟨hc,_⟩:=o4 hob;have m2:st1.mem=Wx st.mem st.next (some ⟨rows c.toNat fun _=>zero,e,some ⟨i.size,c.toNat,.flat fun _=>zero⟩⟩):=o2
    have n2:st1.next=st.next+1:=o3
    have h0:Jy P st t (.int kl l) (.int kc c)=some (.sl st.next 0 l.toNat (.ex c.toNat),Cj st (Co c.toNat zero) e):=by simp_all [Jy]
    obtain ⟨ρ',uv,w',eH,hp,_,_⟩:=YP h cx.floor h0 hx hy;refine ⟨ρ',uv,w',eH,?_,?_,?_⟩
    .have hv:=hp.val;cases hv with
     | sl _ _ _ _ l' c' hρ' gA fX=>
      have hbk:=hp.rel.blk st.next l' ⟨Co c.toNat zero,e,none⟩ hρ' (Yz _ _ _)
      have hcn:c'=c.toNat:=gA;have q1:=hbk.n;have q2:=hbk.tot;simp only [Q2,hzl] at q1;have:=Zr.sla (ρ:=ρ') st.next i.size 0 l.toNat (.un i.size) l' c' hρ' (by grind [DM]) fX
      grind
    .have hr:B9 ρ' (Wx st.mem st.next (some ⟨Co c.toNat zero,e,none⟩)) (st.next+1) w':=hp.rel;rw [w5m] at hr;rw [m2,n2];obtain ⟨_,_,_,_,hzr,_⟩:=Wi (ρ:=ρ) hz;exact hr.setArr ⟨i.size,c.toNat,_⟩ (QP (ρ:=ρ) (fun v hv=>.inl (Uj.mem hzr v (w5k hv).choose_spec.2)) _ _) rfl (Aj k2) fun _ _=>hzl
    .rw [m2,n2];refine hp.ev.remem fun b' hb' cs ty hcs=> ?_;show _=Yi (Wx st.mem st.next _) b'
     grind [Zx]
  .cases hb
 .cases hb
theorem z7o {cx:CI} {st st':St} {w:World} (h:B9 ρ st.mem st.next w) {ts:Array TypeId} {type:TypeId} {xs:List B3} {us:Array Value} {v:B3} (ha:L3 P cx st ts.toList xs=some (v,st')) (hob:st'.ob=true) (hx:Vo (Zr ρ) xs us.toList) (hty:tyOk P st.mem ts.toList xs=true):
  ∃ρ' u w',(Builtin.append_ ts type us).run P w=.ok u w'/\DX ρ cx.floor st st' v w ρ' u w'/\ ∀b sz off len z r blk l,xs=.sla b sz off len (.un z)::r->Yi st.mem b=some blk->ρ b=some l->Wt ρ w' blk l:=by
 obtain ⟨ul⟩:=us;simp only at hx;unfold L3 at ha;split at ha
 .rename_i t u tr b sz off len z x xr hts;split at ha
  .rename_i e ut hu hut;split at ha
   .cases ha
   .rename_i hni;split at ha
    .rename_i i hi;split at ha
     .rename_i n new zero blk hc hz hm;split at ha
      .rename_i A hA;cases fA:(Nat.beq zero.length i.size&&Nat.beq new.length (n*i.size)&&Nat.ble 1 i.size&&new.all Cg&&Nat.beq sz i.size&&Nat.beq z sz&&Nat.ble cx.floor b&&Nat.ble 1 n) with
       | false=>grind
       | true=>
        rw [fA,Af] at ha;have hchk0:=fA;simp only [Ad] at fA;obtain ⟨⟨⟨⟨⟨⟨⟨k1,k2⟩,k3⟩,k4⟩,k5⟩,k6⟩,k7⟩,k8⟩:=fA;obtain rfl:=Ah k5;obtain rfl:=Ah k6;have hnl:=Ah k2;have hsz1:=Aj k3;have hfl:=Aj k7;have hn1:=Aj k8;simp only [Ao,Ac] at ha;obtain ⟨st1,ho,rfl,rfl⟩:=ha;obtain ⟨o1,o2,o3,o4⟩:=R1 ho;obtain ⟨hb,_⟩:=o4 hob;simp only [Ad,Ak] at hb;obtain ⟨hAs,hfull,eK⟩:=hb;have hAs:=Ah hAs;have hbn:b<st.next:=by
         rcases Ba b st.next with g | g
         .exact g
         .rw [h.bd b g] at hm;cases hm
        have m2:st1.mem=Wx (Wx st.mem b none) st.next (some ⟨rows (len+n) (Zo A.get off len i.size new),e,some ⟨i.size,len+n,Zo A.get off len i.size new⟩⟩):=o2
        have n2:st1.next=st.next+1:=o3
        cases hx with
        | cons ha0 hr=>
         cases ha0 with
         | sla _ _ _ _ _ l c hρ eM eE=>
          have hb0:=(h.blk b l blk hρ hm).rows hA;have hno:=hb0.noObj;obtain ⟨fJ,fY,eR⟩:=hb0.arr A hA;rw [hAs] at eR;obtain ⟨q1,q2⟩:=w5l (new:=new) eR hfull hnl;have hlenr:=Yq A.n eR;have hmul:off*i.size+len*i.size=A.n*i.size:=(by grind);have hcut:cut blk.cells (off*i.size) (len*i.size)=some ((blk.cells.drop (off*i.size)).take (len*i.size)):=by
           unfold cut;simp only;rw [show Nat.beq ((blk.cells.drop (off*i.size)).take (len*i.size)).length (len*i.size)=true from by
            rw [Nat.beq_eq];simp [fJ,hlenr];omega]
           rfl
          have hroom':Nat.ble ((len+n+1)*(i.bytes+1)) Ve=true:=A0 eK;have hnot:Nat.ble (off*i.size+(len+n)*i.size) blk.cells.length=false:=by
           have:1*i.size<=n*i.size:=AE _ hn1;cases g:Nat.ble (off*i.size+(len+n)*i.size) blk.cells.length with
           | false=>rfl
           | true=>
            have:=Aj g
            grind
          have hat:Nat.beq (off*i.size+len*i.size) blk.cells.length=true:=(by simp_all);have h0:Fr P cx.floor st ts.toList (.sl b (off*i.size) len (.un i.size)::x::xr)=some (.sl st.next 0 (len+n) (.un i.size),Cj (st.withMem (Wx st.mem b none)) (((blk.cells.drop (off*i.size)).take (len*i.size))++new) e):=by
           rw [hts];unfold Fr;simp only [hu,hut,hi,hz]
           grind [Jv]
          obtain ⟨ρ',uv,w',eH,hp,_,hkeep⟩:=UZ (type:=type) h cx.floor h0 (us:=⟨_⟩) (.cons (.sl _ _ _ _ l c hρ eM eE) hr) (by rw [hts] at hty ⊢;simpa [tyOk,Iw,hu,hm] using hty);refine ⟨ρ',uv,w',eH,⟨?_,?_,?_⟩,fun b' sz' off' len' z' r' blk' l' e hm' hl'=> ?_⟩
          rotate_left 3
          .injection e with e1 _;injection e1 with f1 _ _ _ _;subst f1;rw [hm] at hm';obtain rfl:=Ag hm';have hxs: ∃b2 o2 c2,x=.sl b2 o2 n c2:=by
            unfold Xq at hc;split at hc
            .grind
            .split at hc
             .obtain ⟨_,hc⟩:=Lg hc;simp_all
             .cases hc
            .cases hc
           obtain ⟨b2,o2,c2,rfl⟩:=hxs;exact hkeep.1 _ _ _ _ _ _ _ _ _ _ _ rfl hn1 hm (by grind) hl'
          .have hv:=hp.val;cases hv with
           | sl _ _ _ _ l' c' hρ' gA fX=>
            have:=Zr.sla (ρ:=ρ') st.next i.size 0 (len+n) (.un i.size) l' c' hρ' (by grind) fX
            grind
          .have hr:=hp.rel;rw [m2,n2];have hr:B9 ρ' (Wx (Wx st.mem b none) st.next (some ⟨((blk.cells.drop (off*i.size)).take (len*i.size))++new,e,none⟩)) (st.next+1) w':=hr;have gB:=QP (ρ:=ρ) (cs:=((blk.cells.drop (off*i.size)).take (len*i.size))++new) (fun v hv=>(AM.1 hv).elim (fun k=>.inl (hb0.mem v (List.mem_of_mem_drop (List.mem_of_mem_take k)))) (fun k=>.inr (Ax.1 k4 v k))) e none;rw [fJ,<-q2] at hr gB;exact hr.setArr ⟨i.size,len+n,_⟩ gB rfl hsz1 q1
          .rw [m2,n2];refine hp.ev.remem fun b' hb' cs ty hcs=> ?_;have hne:b'≠b:=fun e=>by grind
           show _=Yi (Wx (Wx st.mem b none) st.next _) b';rw [Zx _ _ (by omega),Zx _ _ hne,Zx _ _ (by omega),Zx _ _ hne]
         | slan=>
          have hq:=w5l (get:=fun _=>List.replicate i.size B3.undef) (off:=0) (len:=0) (N:=0) (new:=new) (fun i hi=>absurd hi (AC _)) rfl hnl;have hfe:Zo (fun _=>List.replicate i.size B3.undef) 0 0 i.size new=Zo A.get off 0 i.size new:=rfl;rw [hfe] at hq;obtain ⟨q1,q2⟩:=hq;have hn0:Nat.beq n 0=false:=by cases n with | zero=>omega | succ n=>rfl
          have hroom':Nat.ble ((n+1)*(i.bytes+1)) Ve=true:=A0 (by grind);have h0:Fr P cx.floor st ts.toList (.nils ::x::xr)=some (.sl st.next 0 n (.un i.size),Cj st new e):=by
           rw [hts];unfold Fr
           grind [Jv]
          obtain ⟨ρ',uv,w',eH,hp,_,hkeep⟩:=UZ (type:=type) h cx.floor h0 (us:=⟨_⟩) (.cons .nils hr) (by rw [hts];simp [tyOk,hu]);refine ⟨ρ',uv,w',eH,⟨?_,?_,?_⟩,fun b' sz' off' len' z' r' blk' l' e hm' hl'=> ?_⟩
          rotate_left 3
          .have hq:=h.blk b' l' blk' hl' hm';refine hq.world (B7.le_refl ρ) ?_;obtain ⟨_,g1⟩:=hq.some;rw [g1];exact hkeep.2 _ rfl _ _ g1
          .have hv:=hp.val;rw [Al];cases hv with
           | sl _ _ _ _ l' c' hρ' gA fX=>
            have:=Zr.sla (ρ:=ρ') st.next i.size 0 n (.un i.size) l' c' hρ' (by grind) fX
            grind
          .have hr:B9 ρ' (Wx st.mem st.next (some ⟨new,e,none⟩)) (st.next+1) w':=hp.rel;have hr:=hr.kill b;have hr:B9 ρ' (Wx (Wx st.mem b none) st.next (some ⟨new,e,none⟩)) (st.next+1) w':=hr.remem fun b'=>by
            simp only [Vi];by_cases e1:b'=st.next
            .rw [AG e1,Az (by omega),AG e1]
            simp_all
           rw [show new=rows (0+n) (Zo A.get off 0 i.size new) by rw [q2];simp] at hr;rw [m2,n2];have gB:=u2q k4 e none;rw [show new=rows (0+n) (Zo A.get off 0 i.size new) by rw [q2];simp] at gB;have:=hr.setArr ⟨i.size,0+n,Zo A.get off 0 i.size new⟩ gB rfl hsz1 q1;exact this
          .rw [m2,n2];refine hp.ev.remem fun b' hb' cs ty hcs=> ?_;have hne:b'≠b:=fun e=>by grind
           show _=Yi (Wx st.mem st.next _) b';rw [Zx _ _ (by omega),Zx _ _ hne,Zx _ _ (by omega)]
      .cases ha
     .cases ha
    .cases ha
  .cases ha
 .cases ha
theorem B9.ghost {mem:CD} {next:Nat} {w:World} (h:B9 ρ mem next w) (o:Option B8):B9 ρ (Wx mem next o) (next+1) w:=by
 have ne: ∀c l,ρ c=some l->c≠next:=fun c l e=>Bi (h.dom c l e)
 refine ⟨fun c l e=>Bm (h.dom c l e),fun c c' m m' e e' he hs hs'=> ?_,fun c m ac e hc=> ?_,h.old,fun c m e hs=> ?_,h.real,fun c hc=> ?_,⟨fun j l e=>Bm (h.ldom.1 j l e),h.ldom.2⟩⟩
 .rw [Zx _ _ (ne _ _ e)] at hs;rw [Zx _ _ (ne _ _ e')] at hs';exact h.inj c c' m m' e e' he hs hs'
 .rw [Zx _ _ (ne _ _ e)] at hc;exact h.blk c m ac e hc
 .rw [Zx _ _ (ne _ _ e)] at hs;exact h.sep c m e hs
 .rw [Zx _ _ (by omega)];exact h.bd c (by omega)
theorem Ev.ghost {mem:CD} {next:Nat} {w:World} (h:B9 ρ mem next w) (floor:Nat) (o:Option B8):Ev ρ ρ floor mem next (Wx mem next o) (next+1) w w where
 ext:=B7.le_refl _
 new _ _:=rfl
 nxt:=BW _
 unborn k hk _ cs ty hm:=by grind [Zx]
 frame _ _ hk _:=hk
 fresh k m hk e:=by have:=h.dom k m e;omega
 size:=An _
 os:=rfl
 tape:=rfl
 output:=rfl
 still _ _:=rfl
theorem v8a {mem:CD} {next:Nat} {w:World} (h:B9 ρ mem next w) {n sz:Nat} {g:Nat->List B3} {ux:Value} (hx:Zr ρ (.dat n g) ux) (hg: ∀i,i<n->(g i).length =sz) (hsz:1<=sz):
  (∀w,(Builtin.lenOf ux).run P w=.ok n w)/\ ∃vs:Array Value,Uj ρ (rows n g) vs/\ ∀d,(Builtin.firstCells sz n ux).run P {w with drawn:=d}=.ok vs {w with drawn:=d}:=by
 cases hx with
 | datn=>exact ⟨fun w=>by simp [Builtin.lenOf], #[],⟨by simp [rows],fun i h1 h2=>by grind⟩,fun d=>by simp [Builtin.firstCells]⟩
 | datz=>exact ⟨fun w=>by simp [Builtin.lenOf], #[],⟨by simp [rows],fun i h1 h2=>by grind⟩,fun d=>by simp [Builtin.firstCells,loadCells,loadCellsFrom]⟩
 | dat _ _ blk base sz' cap val eM gG hv hh=>
  refine ⟨fun w=>by simp [Builtin.lenOf],?_⟩;have hl:=Yq n hg;have hdiv: ∀k,k<n*sz->k / sz<n/\k %sz<sz/\k / sz*sz+k %sz=k:=fun k hk=>
   ⟨Bf (by grind),Bw _ hsz,by rw [BH];exact BA k sz⟩
  have eY: ∀(d k:Nat),k<n*sz->({w with drawn:=d}:World).cell? ((⟨blk,base,none⟩:Addr).add k)=some (val (k / sz) (k %sz)):=by
   intro d k hk;obtain ⟨hq,hj,e4⟩:=hdiv k hk;have hs:sz'=sz:=by grind
   obtain ⟨cs,el,fz,e1,e2⟩:=hh (k / sz) (k %sz) hq (by omega);have e3:=h.old _ _ e1
   grind [Xa,World.cell?]
  refine ⟨_,⟨?_,?_⟩,fun d=>by simp only [Builtin.firstCells];exact run_loadCells _ _ _ (fun k=>val (k / sz) (k %sz)) (eY d)⟩
  .simp [hl]
  .intro k h1 h2;obtain ⟨hq,hj,e4⟩:=hdiv k (by grind);have hj':k %sz<(g (k / sz)).length :=by grind
   have hr:=Va n hg (k / sz) (k %sz) hq hj;rw [e4,As h1,As hj'] at hr;rw [Ag hr]
   simpa using (hv (k / sz) (k %sz) hq hj').mono (RB ρ)
theorem QI {g:Nat->List B3} {p:B3->Bool} (n:Nat) (h: ∀i,i<n->(g i).all p=true):(rows n g).all p=true:=by
 grind [rows]
theorem QU {get:Nat->List B3} {sz N off len:Nat} (hl: ∀i,i<N->(get i).length =sz) (h:off+len<=N):rows len (fun k=>get (off+k))=((rows N get).drop (off*sz)).take (len*sz):=by
 have h1: ∀k,k<len->(get (off+k)).length =sz:=fun k hk=>hl _ (by omega);have hL:=Yq len h1;have hN:=Yq N hl;have hm:(off+len)*sz<=N*sz:=AE _ h;rw [AV] at hm;apply List.ext_getElem?;intro i;by_cases hi:i<len*sz
 .have hsz:0<sz:=by
   grind
  have hj:i %sz<sz:=Bw _ hsz;have hq:i / sz<len:=Bf (by grind);have e:i / sz*sz+i %sz=i:=by rw [BH];exact BA i sz
  have a1:=Va len h1 (i / sz) (i %sz) hq hj;have a2:=Va N hl (off+i / sz) (i %sz) (by omega) hj
  grind
 grind
theorem x9p (s:List UInt8):rows s.length (Uy s)=s.map fun b=>B3.int .u8 b.toNat:=by
 unfold rows Uy;rw [<-List.map_eq_flatMap];refine Bo (by simp) fun i h1 h2=> ?_;have hi:i<s.length:=by simpa using h2
 simp only [BK,List.getElem_range];unfold CY;rw [Bc,As hi];rfl
theorem x2p {mem:CD} {next:Nat} {w:World} (h:B9 ρ mem next w) {t u e:TypeId} {ut:TypeDesc} {i:TypeInfo} {z:Value} {zero:List B3} {x:B3} {ux:Value} {n:Nat} {g:Nat->List B3} {o:Bool} (hu:P.underlying t=some (.slice e)) (hut:P.underlying u=some ut) (hi:P.info? e=some i) (hz:i.zero=some z)
  (hzr:Uj ρ zero z.cells) (hzl:zero.length=i.size) (hzs:zero.all Cg=true) (hsz:1<=i.size) (hc:WT mem i.size zero ut x=some (n,g,o)) (ho:o=true) (hx:Zr ρ x ux):
  (∀k,k<n->(g k).length =i.size)/\ ∃vs,W5 P ρ t u e i z ux n (rows n g) vs w/\ ∀v∈vs.toList,v.oneCell'=true:=by
 subst ho;unfold WT at hc;split at hc
 .rename_i k m;split at hc
  .rename_i kt;simp only [Ae,Ac] at hc;obtain ⟨rfl,rfl,h0⟩:=hc;have hcs:Jv mem i.size zero (.int kt) (.int k m)=some (m.toNat,Co m.toNat zero):=by
    grind [Jv]
   obtain ⟨vs,hF⟩:=Jt (P:=P) (u:=u) (t:=t) h hu hut hi hz hzr hzl hcs hx (by rw [Q2,hzl]);rw [w5m] at hF;exact ⟨fun _ _=>hzl,vs,hF,Zr.cells_oneCell hF.rel (QI _ fun _ _=>hzs)⟩
  .cases hc
 .rename_i nn gg;split at hc
  .cases hc
  .rename_i hni;simp only [Ae,Ac] at hc;obtain ⟨rfl,rfl,h0⟩:=hc;have hp:= @Av _ (Classical.propDecidable _) h0;obtain ⟨eE,vs,hvs,hfc⟩:=v8a (P:=P) h hx (fun i hi=>(hp i hi).1) hsz;have fZ:(Builtin.firstCells i.size nn ux).run P w=.ok vs w:=hfc w.drawn;have hfc1:(Builtin.firstCells i.size nn ux).run P w.drew=.ok vs w.drew:=hfc (w.drawn+1);exact ⟨fun i hi=>(hp i hi).1,vs,⟨hvs,fun _ eK _ hst hno=>YI hu hut (fun k e=>hni k e) hi (eE w) fZ eK hst hno,fun hold eK fD=>YN hu hut (fun k e=>hni k e) hi hz (eE w) hfc1 hold eK fD⟩,
    Zr.cells_oneCell hvs (QI _ fun i hi=>(hp i hi).2)⟩
 .split at hc
  .cases hc
  .rename_i hni;simp only [Ae,Ac] at hc;obtain ⟨rfl,rfl,_⟩:=hc;have hcs:Jv mem i.size zero ut .nils =some (0,[]):=by
    unfold Jv;split
    .grind
    .rfl
   obtain ⟨vs,hF⟩:=Jt (P:=P) (u:=u) (t:=t) h hu hut hi hz hzr hzl hcs hx (by simp);exact ⟨fun k hk=>absurd hk (AC _),vs,hF,Zr.cells_oneCell hF.rel rfl⟩
 .rename_i b zz off len0 cap;split at hc
  .cases hc
  .rename_i hni;split at hc
   .rename_i cells ty A hm;simp only [Ae,Ac,Ad,Ak] at hc;obtain ⟨rfl,rfl,h1,h2,eO,h4⟩:=hc;have hp:= @Av _ (Classical.propDecidable _) h4;have h1:=Ah h1;have h2:=Ah h2;subst h1;have nc: ∀v,Jv mem i.size zero ut v=Xq mem i.size v:=fun v=>by
     grind [Jv]
    cases hx with
    | sla _ _ _ _ _ l c hρ eM hlc=>
     obtain ⟨fJ,fY,eR⟩:=(h.blk b l _ hρ hm).arr A rfl;rw [h2] at eR;simp only at fJ;have hrp:=QU eR eO;have hlr:=Yq A.n eR;have hm2:(off+len0)*i.size<=A.n*i.size:=AE _ eO;rw [AV] at hm2;have eE:((cells.drop (off*i.size)).take (len0*i.size)).length =len0*i.size:=by
      grind
     have hcut:cut cells (off*i.size) (len0*i.size)=some ((cells.drop (off*i.size)).take (len0*i.size)):=by simp_all [cut]
     have hcs:Jv mem i.size zero ut (.sl b (off*i.size) len0 (.ex c))=some (len0,(cells.drop (off*i.size)).take (len0*i.size)):=by have hno:(⟨cells,ty,some A⟩:B8).isObj =false:=((h.blk b l _ hρ hm).rows rfl).noObj;rw [nc];simp [Xq,hm,hcut,hno]
     obtain ⟨vs,hF⟩:=Jt (P:=P) (u:=u) (t:=t) h hu hut hi hz hzr hzl hcs (.sl b (off*i.size) len0 (.ex c) l c hρ rfl hlc) eE;rw [fJ,<-hrp] at hF;exact ⟨fun k hk=>(hp k hk).1,vs,hF,Zr.cells_oneCell hF.rel (QI _ fun k hk=>(hp k hk).2)⟩
    | slan=>
     have hcs:Jv mem i.size zero ut .nils =some (0,[]):=by rw [nc];rfl
     obtain ⟨vs,hF⟩:=Jt (P:=P) (u:=u) (t:=t) h hu hut hi hz hzr hzl hcs .nils (by simp);exact ⟨fun k hk=>absurd hk (AC _),vs,hF,Zr.cells_oneCell hF.rel rfl⟩
   .cases hc
 .rename_i s;split at hc
  .obtain ⟨hs1,hc⟩:=Qr hc;have hs1:=Ah hs1;simp only [Ae,Ac] at hc;obtain ⟨rfl,rfl,_⟩:=hc;cases hx;have hvs:Uj ρ (rows s.length (Uy s)) (s.map fun b=>Value.int .u8 b.toNat).toArray :=by rw [x9p];refine ⟨by simp,fun j h1 h2=> ?_⟩;simp only [BK,List.getElem_toArray];exact .int _ _
   have hl: ∀w,(Builtin.lenOf (.string ⟨s.toArray⟩)).run P w=.ok s.length w:=fun w=>by simp [Builtin.lenOf,<-ByteArray.size_data]
   have hfc: ∀w,(Builtin.firstCells i.size s.length (.string ⟨s.toArray⟩)).run P w=.ok (s.map fun b=>Value.int .u8 b.toNat).toArray w:=fun w=>by simp [Builtin.firstCells,ByteArray.data_extract]
   exact ⟨fun k hk=>hs1.symm,_,⟨hvs,fun _ eK _ hst hno=>YI hu hut (fun k e=>by cases e) hi (hl w) (hfc w) eK hst hno,fun hold eK fD=>YN hu hut (fun k e=>by cases e) hi hz (hl w) (hfc _) hold eK fD⟩,
    Zr.cells_oneCell hvs (QI _ fun i hi=>rfl)⟩
  .cases hc
 .cases hc
def j6l (P:Program) (ρ:B7) (floor:Nat) (mem mem':CD) (next:Nat) (sz:Nat) (e:TypeId) (N:Nat) (G:Nat->List B3) (w:World) (r:World->Result Value):Prop:=
 ∃ρ' u w',r w=.ok u w'/\Zr ρ' (.sla next sz 0 N (.un sz)) u/\B9 ρ' (Wx mem' next (some ⟨rows N G,e,some ⟨sz,N,G⟩⟩)) (next+1) w'/\Ev ρ ρ' floor mem next (Wx mem' next (some ⟨rows N G,e,some ⟨sz,N,G⟩⟩)) (next+1) w w'
theorem y7z {mem:CD} {next:Nat} {w:World} (h:B9 ρ mem next w) (floor:Nat) {t u e:TypeId} {type:TypeId} {ts:List TypeId} {xs:List Value} {i:TypeInfo} {z ux:Value} {n:Nat} {new:List B3} {vs:Array Value} (hF:W5 P ρ t u e i z ux n new vs w)
  (eU: ∀v∈vs.toList,v.oneCell'=true) (hnl:new.length=n*i.size) (hzs:z.cells.size=i.size) (hsz:1<=i.size) {len c off b:Nat} {l:CR} {blk:B8} (hrm:(len+n+1)*(i.bytes+1)<=Ve)
  (hρ:ρ b=some l) (hm:Yi mem b=some blk) (hno:blk.isObj=false) (hfl:floor<=b) (hoff:off+len*i.size<=blk.cells.length) (hlc:len<=c) (eM:(l.n<=off+c*i.size/\off+c*i.size<=l.tot)\/c<=len)
  {G:Nat->List B3} (hG:rows (len+n) G=(blk.cells.drop off).take (len*i.size)++new) (hGl: ∀k,k<len+n->(G k).length =i.size) (htyb:blk.ty=e):
  j6l P ρ floor mem (Wx mem b none) next i.size e (len+n) G w fun w=>(Builtin.append_ (t::u::ts).toArray type ((.slice (some ⟨l.blk,l.base+off,none⟩) len c)::ux::xs).toArray).run P w:=by
 have hvs:=hF.rel;have hvsz:vs.size=n*i.size:=by rw [<-hvs.1];exact hnl
 have hbk:=(h.blk b l blk hρ hm).at hno;have hln:=hbk.n;have htot:=hbk.tot;have hmul:(len+n)*i.size=len*i.size+n*i.size:=AV _ _ _;have hcut:cut blk.cells off (len*i.size)=some ((blk.cells.drop off).take (len*i.size)):=by unfold cut;simp only;rw [show Nat.beq ((blk.cells.drop off).take (len*i.size)).length (len*i.size)=true from by rw [Nat.beq_eq];simp;omega];rfl
 have hcos:Xq mem i.size (.sl b off len (.ex c))=some (len,(blk.cells.drop off).take (len*i.size)):=by simp [Xq,hm,hcut,hno]
 have holdl:((blk.cells.drop off).take (len*i.size)).length =len*i.size:=by simp;omega
 obtain ⟨_,hfo⟩:=Uw (P:=P) h hcos (.sl b off len (.ex c) l c hρ rfl hlc) holdl;obtain ⟨ovs,hovs,hof⟩:=hfo len (An _);rw [A9 (by omega)] at hovs;have hovz:ovs.size=len*i.size:=by rw [<-hovs.1];exact holdl
 have hof1:(Builtin.firstCells i.size len (.slice (some ⟨l.blk,l.base+off,none⟩) len c)).run P w.drew=.ok ovs w.drew:=hof (w.drawn+1);have hrn:n=0\/(n+1)*(i.bytes+1)<=1099511627776:=.inr (AN (AE _ (by omega)) hrm);have gB:(⟨rows (len+n) G,e,none⟩:B8).isObj =false:=by rw [hG];exact QP (fun v hv=>.inl (Uj.mem (hovs.append hvs) v hv)) _ _
 by_cases eK:len+n<=c
 ·-- there is Ve
  have hcm:(len+n)*i.size<=c*i.size:=AE _ eK;obtain ⟨T,t1,t2,t3⟩: ∃T,off+len*i.size - off+new.length<=T/\off+T<=l.tot/\c*i.size<=T:=by
   rcases eM with ⟨c1,c2⟩ | c1
   .exact ⟨l.tot - off,by omega,by omega,by omega⟩
   .have:n=0:=(by omega);subst this;have:c=len:=(by omega);subst this;exact ⟨c*i.size,by omega,by omega,by omega⟩
  obtain ⟨cur,el,hw,hcsz,eD⟩:=h.beyond2 hρ hm hno (off:=off) (m:=off+len*i.size) (T:=T) (new:=new) (vs:=vs.toList) e (by grind) (by omega) hoff t1 t2 (fun j h1 h2=>by simpa using hvs.2 j h1 (by grind)) htyb;have hst:=run_storeCells_at P l.blk (l.base+off+len*i.size) el vs.toList 0 cur w hw (by grind) eU;rw [Bn] at hst;have eH:=hF.hin (type:=type) (ts:=ts) (base:=some ⟨l.blk,l.base+off,none⟩) (len:=len) (c:=c) (xs:=xs) hrn eK (w':=w.setRow l.blk (cur.toList.take (l.base+off+len*i.size)++vs.toList++cur.toList.drop (l.base+off+len*i.size+vs.toList.length)).toArray)
   (fun a e=>by cases e;rw [Xa];exact hst) (fun e=>by cases e)
  have hdt:(blk.cells.take (off+len*i.size)).drop off=(blk.cells.drop off).take (len*i.size):=by
   grind
  rw [hdt,<-hG,<-AO] at eD;refine ⟨_,_,_,eH,?_,eD.setArr ⟨i.size,len+n,G⟩ gB rfl hsz hGl,?_⟩
  .have:=Zr.sla (ρ:=Ux ρ next ⟨l.blk,l.base+off,off+len*i.size - off+new.length,T⟩) next i.size 0 (len+n) (.un i.size) ⟨l.blk,l.base+off,off+len*i.size - off+new.length,T⟩ c (by simp [Ux])
    (by grind [DM]) (by omega)
   grind
  grind [Ev.ofBeyond]
 ·-- a new row
  let st:St:=⟨.leaf,mem,next,[],true⟩
  have fE:B9 ρ (st.withMem (Wx mem b none)).mem (st.withMem (Wx mem b none)).next w:=h.kill b
  obtain ⟨newCap,gA,rest,eP,eH⟩:=hF.hnew (type:=type) (ts:=ts) (base:=some ⟨l.blk,l.base+off,none⟩) (len:=len) (c:=c) (xs:=xs) hof1 (by omega) (by simpa [Ve] using hrm);have hov:=hovs.append hvs;have hsum:(ovs++vs).size +rest.size=newCap*i.size:=by rw [Array.size_append,hovz,hvsz,eP,hzs,<-AV,<-AV];grind
  have hp:=UN fE floor hov rest e e (.sla next i.size 0 (len+n) (.un i.size)) (.slice (some ⟨w.heap.size,0,none⟩) (len+n) newCap) (fun ρ' hρ'=>by
   have:=Zr.sla (ρ:=ρ') next i.size 0 (len+n) (.un i.size) _ newCap hρ' (by
    grind [DM]) gA
   grind)
  rw [<-hG] at hp;refine ⟨Ux ρ next ⟨w.heap.size,0,(rows (len+n) G).length,(ovs++vs).size +rest.size⟩,_,_,eH,hp.val,?_,?_⟩
  .exact B9.setArr hp.rel ⟨i.size,len+n,G⟩ gB rfl hsz hGl
  .refine ((Ev.ofKill h floor hρ).trans hp.ev).remem fun b' hb' cs ty hcs=> ?_;have hne: ¬b'=next:=Bi hb'
   show Yi (Wx (Wx mem b none) next _) b'=Yi (Wx (Wx mem b none) next _) b';simp only [Vi,Az hne]
theorem x7z {mem:CD} {next:Nat} {w:World} (h:B9 ρ mem next w) (floor:Nat) {t u e:TypeId} {type:TypeId} {ts:List TypeId} {xs:List Value} {i:TypeInfo} {z ux:Value} {n:Nat} {new:List B3} {vs:Array Value} (hF:W5 P ρ t u e i z ux n new vs w)
  (hnl:new.length=n*i.size) (hzs:z.cells.size=i.size) (hsz:1<=i.size) (hrm:(0+n+1)*(i.bytes+1)<=Ve) {G:Nat->List B3} (hG:rows (0+n) G=new) (hGl: ∀k,k<0+n->(G k).length =i.size):
  j6l P ρ floor mem mem next i.size e (0+n) G w fun w=>(Builtin.append_ (t::u::ts).toArray type ((.slice none 0 0)::ux::xs).toArray).run P w:=by
 have hvs:=hF.rel;have hvsz:vs.size=n*i.size:=by rw [<-hvs.1];exact hnl
 rcases Nat.eq_zero_or_pos n with hn0 | hnpos
 .subst hn0;have eH:=hF.hin (type:=type) (ts:=ts) (base:=none) (len:=0) (c:=0) (xs:=xs) (.inl rfl) (An _) (w':=w) (fun a e=>by cases e) (fun _=>rfl);exact ⟨ρ,_,w,eH,.slan _ _ _ _,h.ghost _,Ev.ghost h floor _⟩
 .obtain ⟨newCap,eM,rest,eP,eH⟩:=hF.hnew (type:=type) (ts:=ts) (base:=none) (len:=0) (c:=0) (xs:=xs) (old:= #[]) (by simp [Builtin.firstCells]) (by omega) (by simpa [Ve] using hrm);have e0:(#[]:Array Value)++vs=vs:=by simp
  rw [e0] at eH;have hsum:vs.size+rest.size=newCap*i.size:=by rw [hvsz,eP,hzs,<-AV];grind
  let st:St:=⟨.leaf,mem,next,[],true⟩
  have fE:B9 ρ st.mem st.next w:=h
  have hp:=UN fE floor hvs rest e e (.sla next i.size 0 (0+n) (.un i.size)) (.slice (some ⟨w.heap.size,0,none⟩) (0+n) newCap) (fun ρ' hρ'=>by
   have:=Zr.sla (ρ:=ρ') next i.size 0 (0+n) (.un i.size) _ newCap hρ' (by
    grind [DM]) eM
   grind)
  rw [<-hG] at hp;refine ⟨Ux ρ next ⟨w.heap.size,0,(rows (0+n) G).length,vs.size+rest.size⟩,_,_,eH,hp.val,B9.setArr hp.rel ⟨i.size,0+n,G⟩ (by rw [hG];exact QP (fun v hv=>.inl (Uj.mem hvs v hv)) _ _) rfl hsz hGl,?_⟩
  .refine hp.ev.remem fun b' hb' cs ty hcs=> ?_;have hne: ¬b'=next:=Bi hb'
   show Yi (Wx mem next _) b'=Yi (Wx mem next _) b';simp only [Vi,Az hne]
theorem Kg {α β:Type} {f g:α->List β}: ∀{l:List α},(∀a,a∈l->f a=g a)->l.flatMap f=l.flatMap g
 | [],_=>rfl
 | a::l,h=>by rw [List.flatMap_cons,List.flatMap_cons,h a (by simp),Kg fun b hb=>h b (by simp [hb])]
theorem VN {get g:Nat->List B3} {len n sz:Nat} (hl: ∀i,i<len->(get i).length =sz) (hg: ∀i,i<n->(g i).length =sz):
  (∀i,i<len+n->(Yx get len g i).length =sz)/\rows (len+n) (Yx get len g)=rows len get++rows n g:=by
 have h1: ∀i,i<len+n->(Yx get len g i).length =sz:=fun i hi=>by
  unfold Yx;cases e:Nat.ble len i with
  | true=>
   have:=Aj e
   grind
  | false=>
   have: ¬len<=i:=fun h=>by rw [A0 h] at e;cases e
   grind
 refine ⟨h1,?_⟩;unfold rows;rw [List.range_add,List.flatMap_append]
 congr 1
 .refine Kg fun i hi=> ?_;have:=A2.1 hi;unfold Yx;rw [show Nat.ble len i=false from A8.2 fun e=>by have:=Aj e;omega];rfl
 .rw [List.flatMap_map];refine Kg fun i hi=> ?_;unfold Yx;rw [show Nat.ble len (len+i)=true from A0 (Nat.le_add_right _ _),Af,Nat.add_sub_cancel_left]
theorem w0m {sz:Nat}: ∀(n:Nat) (l:List B3),l.length=n*sz->rows n (fun k=>(l.drop (k*sz)).take sz)=l/\ ∀k,k<n->((l.drop (k*sz)).take sz).length =sz:=by
 intro n l hl;have h1: ∀k,k<n->((l.drop (k*sz)).take sz).length =sz:=fun k hk=>by
  have:(k+1)*sz<=n*sz:=AE _ hk
  grind
 refine ⟨?_,h1⟩;have eE:=Yq n h1;apply List.ext_getElem?;intro i;by_cases hi:i<n*sz
 .have hsz:0<sz:=by
   grind
  have hj:i %sz<sz:=Bw _ hsz;have hq:i / sz<n:=Bf (by grind);have e:i / sz*sz+i %sz=i:=by rw [BH];exact BA i sz
  grind [Va]
 grind
theorem x0j {cx:CI} {st st':St} {w:World} (h:B9 ρ st.mem st.next w) {ts:Array TypeId} {type:TypeId} {xs:List B3} {us:Array Value} {v:B3} (ha:HA P cx st ts.toList xs=some (v,st')) (hob:st'.ob=true) (hx:Vo (Zr ρ) xs us.toList) (hty:tyOk P st.mem ts.toList xs=true):
  ∃ρ' u w',(Builtin.append_ ts type us).run P w=.ok u w'/\DX ρ cx.floor st st' v w ρ' u w':=by
 obtain ⟨ts⟩:=ts;obtain ⟨us⟩:=us;simp only at ha hx;unfold HA at ha;split at ha
 .rename_i t tu tts s x txs;cases hx with
  | @cons _ su _ _ hs hx=>
   cases hx with
   | @cons _ ux _ uxs hx _=>
    split at ha
    .rename_i e ut hu hut;split at ha
     .rename_i i zero hi hz;split at ha
      .rename_i b len get o1 n g o2 ht hc;obtain ⟨i2,z,hi2,hz2,hzr,_⟩:=Wi (ρ:=ρ) hz;obtain rfl:i=i2:=by grind
       obtain ⟨fA,ha⟩:=Qr ha;simp only [Ad] at fA;obtain ⟨⟨⟨hzl,hzsc⟩,hsz⟩,hfl⟩:=fA;have hzl:=Ah hzl;have hsz:=Aj hsz;have hzs:z.cells.size=i.size:=by rw [<-hzr.1];exact hzl
       simp only [Ao,Ac] at ha;obtain ⟨st1,ho,rfl,rfl⟩:=ha;obtain ⟨_,m2,n2,o4⟩:=R1 ho;obtain ⟨hb,_⟩:=o4 hob;simp only [Ad,Ak] at hb;obtain ⟨hb1,hb2,hrm⟩:=hb;have m2:st1.mem=Wx (MD st.mem b) st.next (some ⟨rows (len+n) (Yx get len g),e,some ⟨i.size,len+n,Yx get len g⟩⟩):=m2
       have n2:st1.next=st.next+1:=n2
       obtain ⟨hgl,vs,hF,eU⟩:=x2p (P:=P) (u:=tu) (t:=t) h hu hut hi hz2 hzr hzl hzsc hsz hc hb2 hx.unN;have hnl:=Yq n hgl
       suffices j6l P ρ cx.floor st.mem (MD st.mem b) st.next i.size e (len+n) (Yx get len g) w fun w=>(Builtin.append_ (t::tu::tts).toArray type (su::ux::uxs).toArray).run P w by obtain ⟨ρ',u,w',eH,hv,hr,hev⟩:=this;exact ⟨ρ',u,w',eH,hv,by grind,by grind⟩
       unfold PN at ht;split at ht
       .simp only [Ae,Ac] at ht;obtain ⟨rfl,rfl,rfl,_⟩:=ht;cases hs;obtain ⟨q1,q2⟩:=VN (get:=fun _=>[]) (len:=0) (fun i hi=>absurd hi (AC _)) hgl;exact x7z h cx.floor hF hnl hzs hsz hrm (by rw [q2];simp [rows]) q1
       .rename_i b0 off len0 cap;split at ht
        .rename_i blk hm;split at ht
         .rename_i old hold;obtain ⟨fS,ht⟩:=Qr ht;simp only [Ad,Be] at fS;obtain ⟨hno,fS,hoff⟩:=fS;have hoff:=Aj hoff;simp only [Ae,Ac] at ht;obtain ⟨rfl,rfl,rfl,_⟩:=ht;obtain ⟨k1,k2,k3⟩:=L4 hold;obtain ⟨r1,r2⟩:=w0m len0 old k2;obtain ⟨q1,q2⟩:=VN r2 hgl;cases hs with
          | sl _ _ _ _ l c hρ eM hlc=>
           have hbk:=h.blk b0 l blk hρ hm;have k4:off+len0*i.size<=blk.cells.length:=(by omega);refine y7z h cx.floor hF eU hnl hzs hsz hrm hρ hm hno (Aj hfl) k4 hlc ?_ (by grind) q1 (by simpa [tyOk,Iw,hu,hm] using hty);cases cap with
           | ex k=>exact .inr (by simp only [DM] at eM;rw [eM];exact Aj fS)
           | un zz=>
            have:=Ah fS
            grind [DM]
         .cases ht
        .cases ht
       .rename_i b0 zz off len0 cap;split at ht
        .rename_i blk hm;split at ht
         .rename_i A hA;obtain ⟨fS,ht⟩:=Qr ht;simp only [Ae,Ac] at ht;obtain ⟨rfl,rfl,rfl,rfl⟩:=ht;simp only [Ad,Ak] at hb1;obtain ⟨hz1,hz2',eO⟩:=hb1;obtain rfl:=Ah hz1;have hAs:=Ah hz2';cases hs with
          | sla _ _ _ _ _ l c hρ eM hlc=>
           obtain ⟨fJ,fY,eR⟩:=(h.blk b0 l blk hρ hm).arr A hA;rw [hAs] at eR;have hlr:=Yq A.n eR;have hgl0: ∀k,k<len0->(A.get (off+k)).length =i.size:=fun k hk=>eR _ (by omega);obtain ⟨q1,q2⟩:=VN hgl0 hgl;have hm2:(off+len0)*i.size<=A.n*i.size:=AE _ eO;rw [AV] at hm2;refine y7z h cx.floor hF eU hnl hzs hsz hrm hρ hm ((h.blk b0 l blk hρ hm).rows hA).noObj (Aj hfl) (by grind) hlc ?_ (by rw [q2,QU eR eO,fJ]) q1 (by simpa [tyOk,Iw,hu,hm] using hty);cases cap with
           | ex k=>exact .inr (by simp only [DM] at eM;rw [eM];exact Aj fS)
           | un zz=>
            have:=Ah fS
            grind [DM]
          | slan=>
           obtain ⟨q1,q2⟩:=VN (get:=fun k=>A.get (off+k)) (len:=0) (fun i hi=>absurd hi (AC _)) hgl;obtain ⟨ρ',u,w',eH,hv,hr,hev⟩:=x7z (P:=P) (type:=type) (ts:=tts) (xs:=uxs) h cx.floor hF hnl hzs hsz hrm (G:=Yx (fun k=>A.get (off+k)) 0 g) (by rw [q2];simp [rows]) q1;have hbn:b0<st.next:=by
            rcases Ba b0 st.next with g | g
            .exact g
            .rw [h.bd b0 g] at hm;cases hm
           refine ⟨ρ',u,w',eH,hv,?_,?_⟩
           .refine (hr.kill b0).remem fun b'=> ?_;simp only [MD,Vi];by_cases e1:b'=st.next
            .rw [AG e1,Az (by omega),AG e1]
            simp_all
           .refine hev.remem fun b' hb' cs ty hcs=> ?_;have hne:b'≠b0:=fun e=>by grind
            show Yi (Wx (Wx st.mem b0 none) st.next _) b'=Yi (Wx st.mem st.next _) b';rw [Zx _ _ (by omega),Zx _ _ hne,Zx _ _ (by omega)]
         .cases ht
        .cases ht
       .cases ht
      .cases ha
     .cases ha
    .cases ha
 .cases ha
theorem w4q {st st':St} {w:World} (h:B9 ρ st.mem st.next w) (floor:Nat) {ts:Array TypeId} {type:TypeId} {xs:List B3} {us:Array Value} {v:B3} (ha:Lw P floor st ts.toList xs=some (v,st')) (hx:Vo (Zr ρ) xs us.toList):
  ∃ρ' u w',(Builtin.copy_ ts type us).run P w=.ok u w'/\DX ρ floor st st' v w ρ' u w'/\st'.env=st.env/\st'.ob=st.ob:=by
 obtain ⟨ts⟩:=ts;obtain ⟨us⟩:=us;simp only at ha hx;unfold Lw at ha;split at ha
 .rename_i t _ d x _;cases hx with
  | @cons _ ud _ _ hd hx=>
   cases hx with
   | @cons _ ux _ uxs hx _=>
    split at ha
    .rename_i e hu;split at ha
     .rename_i i hi;split at ha
      .rename_i m src hcs;cases hc:(Nat.beq src.length (m*i.size)&&src.all Cg) with
       | false=>grind
       | true=>
        rw [hc,Af] at ha;simp only [Ad] at hc;have hsl:=Ah hc.1;have hsc:=hc.2;obtain ⟨eE,eW⟩:=Uw (P:=P) h hcs hx hsl;split at ha
        .cases hd;simp only [Ae,Ac] at ha;obtain ⟨rfl,rfl⟩:=ha;obtain ⟨vs,hvs,hfc⟩:=eW 0 (AF _);have fZ:(Builtin.firstCells i.size 0 ux).run P w=.ok vs w:=hfc w.drawn;refine ⟨ρ,_,w,?_,⟨.int _ _,h,Ev.refl _ _ _ _ _ h.dom⟩,rfl,rfl⟩;simp_all [Builtin.copy_,run_underlying,Zn,goInt]
        .rename_i dn dg;obtain ⟨hdn,ha'⟩:=Qr ha;clear ha;obtain rfl:=Ah hdn;simp only [Ae,Ac] at ha';obtain ⟨rfl,rfl⟩:=ha';obtain ⟨vs,hvs,hfc⟩:=eW 0 (AF _);have fZ:(Builtin.firstCells i.size 0 ux).run P w=.ok vs w:=hfc w.drawn;have hv0:vs= #[]:=by
          have:vs.size=0:=by rw [<-hvs.1];simp
          grind
         subst hv0;cases hd with
         | datn=>refine ⟨ρ,_,w,?_,⟨.int _ _,h,Ev.refl _ _ _ _ _ h.dom⟩,rfl,rfl⟩;simp_all [Builtin.copy_,run_underlying,Zn,goInt]
         | datz=>refine ⟨ρ,_,w,?_,⟨.int _ _,h,Ev.refl _ _ _ _ _ h.dom⟩,rfl,rfl⟩;simp_all [Builtin.copy_,run_underlying,Zn,goInt,storeCells]
         | dat=>refine ⟨ρ,_,w,?_,⟨.int _ _,h,Ev.refl _ _ _ _ _ h.dom⟩,rfl,rfl⟩;simp_all [Builtin.copy_,run_underlying,Zn,goInt,storeCells]
        .rename_i b off len cap;split at ha
         .rename_i blk hm;dsimp only at ha;cases hf:(!blk.isObj&&(Nat.ble floor b&&Nat.ble (off+(Nat.min m len)*i.size) blk.cells.length)) with
          | false=>grind
          | true=>
           rw [hf,Af] at ha;simp only [Ad,Be] at hf;obtain ⟨hno,hf⟩:=hf;have hfl:=Aj hf.1;have eO:=Aj hf.2;simp only [Ae,Ac] at ha;obtain ⟨rfl,rfl⟩:=ha;cases hd with
           | sl _ _ _ _ l c hρ eM hlc=>
            have hmin:Nat.min m len<=m:=Nat.min_le_left _ _;have hmul:Nat.min m len*i.size<=m*i.size:=AE _ hmin;obtain ⟨vs,hvs,hfc⟩:=eW (Nat.min m len) hmin;have fZ:(Builtin.firstCells i.size (Nat.min m len) ux).run P w=.ok vs w:=hfc w.drawn;have eU:=Zr.cells_oneCell hvs (Ax.2 fun a ha=>Ax.1 hsc a (List.mem_of_mem_take ha));have hvl:(src.take (Nat.min m len*i.size)).length =Nat.min m len*i.size:=(by grind);obtain ⟨cur,el,hw,hcsz,eD⟩:=h.write hρ hm (off:=off) (cs:=src.take (Nat.min m len*i.size)) (vs:=vs.toList) hno (by simpa using hvs.1.symm) (by grind) (fun j h1 h2=>by simpa using hvs.2 j h1 (by grind));have hst:=run_storeCells_at P l.blk (l.base+off) el vs.toList 0 cur w hw (by grind) eU;rw [Bn] at hst;refine ⟨ρ,.int .i64 (Nat.min m len),w.setRow l.blk (cur.toList.take (l.base+off)++vs.toList++cur.toList.drop (l.base+off+vs.toList.length)).toArray,?_,⟨.int _ _,?_,Ev.ofWrite h hρ hfl _ _⟩,rfl,rfl⟩;all_goals simp_all [Builtin.copy_,run_underlying,Zn,goInt,St.withMem]
         .cases ha
        .cases ha
      .cases ha
     .cases ha
    .cases ha
 .cases ha
theorem v7z {mem:CD} {next:Nat} {w:World} (h:B9 ρ mem next w) {n sz:Nat} {g:Nat->List B3} {ux:Value} (hx:Zr ρ (.dat n g) ux) (hg: ∀i,i<n->(g i).length =sz) (hsz:1<=sz) {m:Nat} (hm:m<=n):
  (∀w,(Builtin.lenOf ux).run P w=.ok n w)/\ ∃vs:Array Value,Uj ρ (rows m g) vs/\ ∀d,(Builtin.firstCells sz m ux).run P {w with drawn:=d}=.ok vs {w with drawn:=d}:=by
 cases hx with
 | datn=>
  obtain rfl:m=0:=by omega
  exact ⟨fun w=>by simp [Builtin.lenOf], #[],⟨by simp [rows],fun i h1 h2=>by grind⟩,fun d=>by simp [Builtin.firstCells]⟩
 | datz=>
  obtain rfl:m=0:=by omega
  exact ⟨fun w=>by simp [Builtin.lenOf], #[],⟨by simp [rows],fun i h1 h2=>by grind⟩,fun d=>by simp [Builtin.firstCells,loadCells,loadCellsFrom]⟩
 | dat _ _ blk base sz' cap val eM gG hv hh=>
  refine ⟨fun w=>by simp [Builtin.lenOf],?_⟩;have hg': ∀i,i<m->(g i).length =sz:=fun i hi=>hg i (by omega);have hl:=Yq m hg';have hdiv: ∀k,k<m*sz->k / sz<m/\k %sz<sz/\k / sz*sz+k %sz=k:=fun k hk=>
   ⟨Bf (by grind),Bw _ hsz,by rw [BH];exact BA k sz⟩
  have eY: ∀(d k:Nat),k<m*sz->({w with drawn:=d}:World).cell? ((⟨blk,base,none⟩:Addr).add k)=some (val (k / sz) (k %sz)):=by
   intro d k hk;obtain ⟨hq,hj,e4⟩:=hdiv k hk;have hs:sz'=sz:=by grind
   obtain ⟨cs,el,fz,e1,e2⟩:=hh (k / sz) (k %sz) (by omega) (by omega);have e3:=h.old _ _ e1
   grind [Xa,World.cell?]
  refine ⟨_,⟨?_,?_⟩,fun d=>by simp only [Builtin.firstCells];exact run_loadCells _ _ _ (fun k=>val (k / sz) (k %sz)) (eY d)⟩
  .simp [hl]
  .intro k h1 h2;obtain ⟨hq,hj,e4⟩:=hdiv k (by grind);have hj':k %sz<(g (k / sz)).length :=by grind
   have hr:=Va m hg' (k / sz) (k %sz) hq hj;rw [e4,As h1,As hj'] at hr;rw [Ag hr]
   simpa using (hv (k / sz) (k %sz) (by omega) hj').mono (RB ρ)
theorem x6g {g:Nat->List B3} {sz n m:Nat} (hg: ∀i,i<n->(g i).length =sz) (hm:m<=n):(rows n g).take (m*sz)=rows m g:=by
 have:=QU (off:=0) (len:=m) hg (by omega)
 grind
theorem v4j {get g:Nat->List B3} {sz N off n:Nat} (hl: ∀i,i<N->(get i).length =sz) (hg: ∀i,i<n->(g i).length =sz) (h:off+n<=N):
  (∀i,i<N->(Ut get off n g i).length =sz)/\rows N (Ut get off n g)=(rows N get).take (off*sz)++rows n g++(rows N get).drop (off*sz+n*sz):=by
 have h1: ∀i,i<N->(Ut get off n g i).length =sz:=fun i hi=>by
  unfold Ut;cases e:(Nat.ble off i&&Nat.ble (i+1) (off+n)) with
  | true=>
   simp only [Ad] at e;have e1:=Aj e.1;have e2:=Aj e.2
   grind
  | false=>exact hl _ hi
 refine ⟨h1,?_⟩;obtain ⟨r,rfl⟩: ∃r,N=off+(n+r):=⟨N - off - n,by omega⟩
 have e2:off*sz+n*sz=(off+n)*sz:=(AV _ _ _).symm;rw [x6g hl (by omega),e2];have e3:(rows (off+(n+r)) get).drop ((off+n)*sz)=rows r fun k=>get (off+n+k):=by
  rw [QU (off:=off+n) (len:=r) hl (by omega)];rw [A9];have:=Yq _ hl
  grind
 rw [e3];unfold rows;rw [List.range_add,List.range_add,List.flatMap_append,List.map_append,List.flatMap_append,<-AH]
 congr 1
 .congr 1
  .refine Kg fun i hi=> ?_;have:=A2.1 hi;unfold Ut;rw [show Nat.ble off i=false from A8.2 fun e=>by have:=Aj e;omega];rfl
  .rw [List.flatMap_map];refine Kg fun i hi=> ?_;have:=A2.1 hi;unfold Ut;rw [A0 (show off<=off+i by omega),A0 (show off+i+1<=off+n by omega),Nat.add_sub_cancel_left];rfl
 .rw [List.map_map,List.flatMap_map];refine Kg fun i hi=> ?_;unfold Ut;show (bif Nat.ble off (off+(n+i))&&Nat.ble (off+(n+i)+1) (off+n) then _ else _)=_;rw [show Nat.ble (off+(n+i)+1) (off+n)=false from A8.2 fun e=>by have:=Aj e;omega,A7,Ab]
  grind
theorem x4p {mem:CD} {next:Nat} {w:World} (h:B9 ρ mem next w) {sz:Nat} (hsz:1<=sz) {x:B3} {ux:Value} {m:Nat} {g:Nat->List B3} {o:Bool} (hc:w3z mem sz x=some (m,g,o)) (ho:o=true) (hx:Zr ρ x ux):
  (∀k,k<m->(g k).length =sz/\(g k).all Cg=true)/\ ∀n,n<=m->(∀w,(Builtin.lenOf ux).run P w=.ok m w)/\ ∃vs:Array Value,Uj ρ (rows n g) vs/\ ∀d,(Builtin.firstCells sz n ux).run P {w with drawn:=d}=.ok vs {w with drawn:=d}:=by
 subst ho;have part: ∀(b z off len c:Nat) (l:CR) (blk:B8) (A:DR),ρ b=some l->Yi mem b=some blk->blk.arr=some A->len<=c->(Nat.beq z sz&&(Nat.beq A.sz sz&&(decide (off+len<=A.n)&&pd (∀i,i<len->(A.get (off+i)).length =sz/\(A.get (off+i)).all Cg=true))))=true->
   (∀k,k<len->(A.get (off+k)).length =sz/\(A.get (off+k)).all Cg=true)/\ ∀n,n<=len->(∀w,(Builtin.lenOf (.slice (some ⟨l.blk,l.base+off*z,none⟩) len c)).run P w=.ok len w)/\ ∃vs:Array Value,Uj ρ (rows n fun k=>A.get (off+k)) vs/\ ∀d,(Builtin.firstCells sz n (.slice (some ⟨l.blk,l.base+off*z,none⟩) len c)).run P {w with drawn:=d}=.ok vs {w with drawn:=d}:=by
  intro b z off len c l blk A hρ hm hA eE ho;simp only [Ad,Ak] at ho;obtain ⟨k1,k2,k3,k4⟩:=ho;obtain rfl:=Ah k1;have k2:=Ah k2;have k4:= @Av _ (Classical.propDecidable _) k4;refine ⟨k4,fun n hn=> ?_⟩;have hno:=((h.blk b l blk hρ hm).rows hA).noObj;obtain ⟨fJ,fY,eR⟩:=(h.blk b l blk hρ hm).arr A hA;rw [k2] at eR;have hlr:=Yq A.n eR;have hm2:(off+len)*z<=A.n*z:=AE _ k3;rw [AV] at hm2;have hpl:=QU eR k3;have hL:(rows len fun k=>A.get (off+k)).length =len*z:=Yq len fun i hi=>(k4 i hi).1;have hcs:Xq mem z (.sl b (off*z) len (.ex c))=some (len,rows len fun k=>A.get (off+k)):=by simp_all [Xq,cut]
  obtain ⟨q1,q2⟩:=Uw (P:=P) h hcs (.sl b (off*z) len (.ex c) l c hρ rfl eE) hL
  grind [x6g]
 have none0: ∀(g:Nat->List B3) (n:Nat) (p:Option Addr) (c:Nat),n<=0->(∀w,(Builtin.lenOf (.slice p 0 c)).run P w=.ok 0 w)/\ ∃vs:Array Value,Uj ρ (rows n g) vs/\ ∀d,(Builtin.firstCells sz n (.slice p 0 c)).run P {w with drawn:=d}=.ok vs {w with drawn:=d}:=by
  intro g n p c hn;obtain rfl:n=0:=by omega
  cases p with
  | none=>exact ⟨fun w=>by simp [Builtin.lenOf], #[],⟨by simp [rows],fun i h1 h2=>by grind⟩,fun d=>by simp [Builtin.firstCells]⟩
  | some a=>refine ⟨fun w=>by simp [Builtin.lenOf],_,⟨?_,fun i h1 h2=>by simp [rows] at h1⟩,fun d=>by simp only [Builtin.firstCells];exact run_loadCells _ _ _ (fun _=>undef) fun k hk=>by grind⟩;simp [rows]
 unfold w3z at hc;split at hc
 .simp only [Ae,Ac] at hc;obtain ⟨rfl,rfl,_⟩:=hc;cases hx;exact ⟨fun k hk=>absurd hk (AC _),fun n hn=>none0 _ n none 0 hn⟩
 .rename_i n' g';simp only [Ae,Ac] at hc;obtain ⟨rfl,rfl,h0⟩:=hc;have hp:= @Av _ (Classical.propDecidable _) h0;exact ⟨hp,fun n hn=>v7z (P:=P) h hx (fun i hi=>(hp i hi).1) hsz hn⟩
 .split at hc
  .rename_i blk hm;split at hc
   .rename_i A hA;simp only [Ae,Ac] at hc;obtain ⟨rfl,rfl,h0⟩:=hc;cases hx with
    | sla _ _ _ _ _ l c hρ eM eE=>grind
    | slan=>exact ⟨fun k hk=>absurd hk (AC _),fun n hn=>none0 _ n none 0 hn⟩
   .cases hc
  .cases hc
 .split at hc
  .rename_i blk hm;split at hc
   .rename_i A hA;simp only [Ae,Ac] at hc;obtain ⟨rfl,rfl,h0⟩:=hc;cases hx with
    | slv _ _ _ _ l c hρ eE=>grind
    | slve=>exact ⟨fun k hk=>absurd hk (AC _),fun n hn=>none0 _ n _ _ hn⟩
    | slvn=>exact ⟨fun k hk=>absurd hk (AC _),fun n hn=>none0 _ n none 0 hn⟩
   .cases hc
  .cases hc
 .cases hc
theorem B9.reblk {mem:CD} {next:Nat} {w:World} (h:B9 ρ mem next w) {b:Nat} {blk blk':B8} (hm:Yi mem b=some blk) (hb: ∀l,ρ b=some l->Wt ρ w blk l->Wt ρ w blk' l):B9 ρ (Wx mem b (some blk')) next w:=by
 have iff: ∀c,(Yi (Wx mem b (some blk')) c).isSome =true->(Yi mem c).isSome =true:=fun c hc=>by
  grind [Vi]
 have hlt:b<next:=by
  rcases Ba b next with q | q
  .exact q
  .rw [h.bd b q] at hm;cases hm
 refine ⟨h.dom,fun c c' m m' e e' he hs hs'=>h.inj c c' m m' e e' he (iff c hs) (iff c' hs'),fun c m ac e hc=> ?_,h.old,fun c m e hs=>h.sep c m e (iff c hs),h.real,fun c hc=> ?_,h.ldom⟩
 .grind [Vi,blk]
 .rw [Zx _ _ (by omega)];exact h.bd c hc
theorem Ev.put {mem:CD} {next:Nat} {w:World} (h:B9 ρ mem next w) (floor:Nat) {b:Nat} {blk:B8} {A:DR} (hm:Yi mem b=some blk) (hA:blk.arr=some A) (o:Option B8):Ev ρ ρ floor mem next (Wx mem b o) next w w where
 ext:=B7.le_refl _
 new _ _:=rfl
 nxt:=An _
 unborn k _ e cs ty hk:=by
  grind [Zx]
 frame _ _ hk _:=hk
 fresh k m hk e:=by have:=h.dom k m e;omega
 size:=An _
 os:=rfl
 tape:=rfl
 output:=rfl
 still _ _:=rfl
theorem y3x {cx:CI} {st st':St} {w:World} (h:B9 ρ st.mem st.next w) {ts:Array TypeId} {type:TypeId} {us:Array Value} {b sz off len:Nat} {d x:B3} {xs:List B3} {v:B3} (ha:Ie P cx st ts.toList b sz off len x=some (v,st')) (hob:st'.ob=true) (hx:Vo (Zr ρ) (d::x::xs) us.toList)
  (hd: ∀u,Zr ρ d u->(∃l c,ρ b=some l/\len<=c/\u=.slice (some ⟨l.blk,l.base+off*sz,none⟩) len c)\/(len=0/\ ∃p c,u=.slice p 0 c)):
  ∃ρ' u w',(Builtin.copy_ ts type us).run P w=.ok u w'/\DX ρ cx.floor st st' v w ρ' u w':=by
 obtain ⟨ts⟩:=ts;obtain ⟨us⟩:=us;simp only at ha hx;unfold Ie at ha;split at ha
 .rename_i t _;cases hx with
  | @cons _ ud _ _ hd0 hx=>
   cases hx with
   | @cons _ ux _ uxs hx _=>
    split at ha
    .rename_i e hu;split at ha
     .rename_i i blk hi hm;split at ha
      .rename_i A m g o hA hcs;obtain ⟨fA,ha⟩:=Qr ha;simp only [Ad] at fA;have hfl:=Aj fA.1;have hsz:=Aj fA.2;simp only [Ao,Ac] at ha;obtain ⟨st1,ho,rfl,rfl⟩:=ha;obtain ⟨_,m2,n2,o4⟩:=R1 ho;obtain ⟨hb,_⟩:=o4 hob;simp only [Ad,Ak] at hb;obtain ⟨k1,k2,k3,k4⟩:=hb;obtain rfl:=Ah k1;have k2:=Ah k2;have m2:st1.mem=Wx st.mem b (some ⟨rows A.n (Ut A.get off (Nat.min m len) g),blk.ty,some ⟨A.sz,A.n,Ut A.get off (Nat.min m len) g⟩⟩):=m2;have n2:st1.next=st.next:=n2
       obtain ⟨hg,eW⟩:=x4p (P:=P) h hsz hcs k4 hx;have hmin:Nat.min m len<=m:=Nat.min_le_left _ _;have hmin2:Nat.min m len<=len:=Nat.min_le_right _ _;obtain ⟨eE,vs,hvs,hfc⟩:=eW (Nat.min m len) hmin;have fZ:(Builtin.firstCells i.size (Nat.min m len) ux).run P w=.ok vs w:=hfc w.drawn;have hgl: ∀k,k<Nat.min m len->(g k).length =i.size:=fun k hk=>(hg k (by omega)).1;have hrl:=Yq (Nat.min m len) hgl;have eU:=Zr.cells_oneCell hvs (QI _ fun k hk=>(hg k (by omega)).2);have hbn:b<st.next:=by
        rcases Ba b st.next with q | q
        .exact q
        .rw [h.bd b q] at hm;cases hm
       have nothing:Nat.min m len=0->B9 ρ st1.mem st1.next w/\Ev ρ ρ cx.floor st.mem st.next st1.mem st1.next w w:=fun e0=>by
        rw [m2,n2,e0];have same: ∀k,Ut A.get off 0 g k=A.get k:=fun k=>by
         unfold Ut;cases e:(Nat.ble off k&&Nat.ble (k+1) (off+0)) with
         | true=>simp only [Ad] at e;have e1:=Aj e.1;have e2:=Aj e.2;omega
         | false=>rfl
        have same:Ut A.get off 0 g=A.get:=funext same;rw [same];refine ⟨?_,Ev.put h cx.floor hm hA _⟩;refine h.reblk hm fun l hρ hbk=> ?_;have hbk:=hbk.rows hA;obtain ⟨fJ,fY,eR⟩:=hbk.arr A hA;refine .plain ⟨by have:=hbk.typ;grind,by rw [hbk.n,fJ],hbk.tot,fun B hB=> ?_,?_⟩
        .obtain rfl:=Ag hB;exact ⟨rfl,fY,eR⟩
        .have:=hbk.cells
         grind
       rcases hd ud hd0 with ⟨l,c,hρ,hlc,rfl⟩ | ⟨rfl,p,c,rfl⟩
       .have hb0:=(h.blk b l blk hρ hm).rows hA;have hno:=hb0.noObj;obtain ⟨fJ,fY,eR⟩:=hb0.arr A hA;rw [k2] at eR;have hlr:=Yq A.n eR;have hfitN:off+Nat.min m len<=A.n:=(by omega);obtain ⟨c1,c2⟩:=v4j eR hgl hfitN;have hm3:(off+Nat.min m len)*i.size<=A.n*i.size:=AE _ hfitN;rw [AV] at hm3;obtain ⟨cur,el,hw,hcsz,eD⟩:=h.write hρ hm (off:=off*i.size) (cs:=rows (Nat.min m len) g) (vs:=vs.toList) hno (by simpa using hvs.1.symm) (by grind) (fun j h1 h2=>by simpa using hvs.2 j h1 (by grind));have gB:=hb0.splice (off:=off*i.size) (cs:=rows (Nat.min m len) g) (vs:=vs.toList) (by simpa using hvs.1.symm) (by grind) (fun j h1 h2=>by simpa using hvs.2 j h1 (by grind)) blk.ty none;have hst:=run_storeCells_at P l.blk (l.base+off*i.size) el vs.toList 0 cur w hw (by grind) eU;rw [Bn] at hst;rw [hrl,fJ,<-c2] at eD gB;refine ⟨ρ,.int .i64 (Nat.min m len:Nat),w.setRow l.blk (cur.toList.take (l.base+off*i.size)++vs.toList++cur.toList.drop (l.base+off*i.size+vs.toList.length)).toArray,?_,.int _ _,?_,?_⟩
        .have hl2:=eE w;simp [Builtin.copy_,run_underlying hu,eE,Zn hi,fZ,goInt,hst,-Array.length_toList,-List.append_assoc]
        .rw [m2,n2];have:=eD.setArr ⟨A.sz,A.n,.flat (Ut A.get off (Nat.min m len) g)⟩ gB rfl fY (by rw [k2];exact c1);exact this
        grind [Ev.ofWrite]
       .have e0:Nat.min m 0=0:=Nat.min_zero m;obtain ⟨n1,n3⟩:=nothing e0;refine ⟨ρ,.int .i64 (Nat.min m 0:Nat),w,?_,.int _ _,n1,n3⟩;rw [e0] at fZ hvs;have hv0:vs= #[]:=by
         have:vs.size=0:=by rw [<-hvs.1];simp [rows]
         grind
        subst hv0;cases p with
        | none=>simp [Builtin.copy_,run_underlying hu,eE,Zn hi,fZ,goInt]
        | some a=>simp [Builtin.copy_,run_underlying hu,eE,Zn hi,fZ,goInt,storeCells]
      .cases ha
     .cases ha
    .cases ha
 .cases ha
theorem x8u {st st':St} {w:World} (h:B9 ρ st.mem st.next w) (floor:Nat) {ts:Array TypeId} {type:TypeId} {xs:List B3} {us:Array Value} {v:B3} (ha:Lb P floor st ts.toList xs=some (v,st')) (hx:Vo (Zr ρ) xs us.toList):
  ∃ρ' u w',(Builtin.clear_ ts type us).run P w=.ok u w'/\DX ρ floor st st' v w ρ' u w'/\st'.env=st.env/\st'.ob=st.ob:=by
 obtain ⟨ts⟩:=ts;obtain ⟨us⟩:=us;simp only at ha hx;unfold Lb at ha;have unit:Zr ρ (.tup []) (.tuple #[]):=.tup [] #[] rfl fun i h1 _=>by simp at h1
 split at ha
 .rename_i t _ d _;cases hx with
  | @cons _ ud _ _ hd _=>
   split at ha
   .rename_i e hu;split at ha
    .rename_i i zero hi hz;obtain ⟨i2,z,hi2,_,hzr,hzv⟩:=Wi (ρ:=ρ) hz;split at ha
     .cases hd;simp only [Ae,Ac] at ha;obtain ⟨rfl,rfl⟩:=ha;exact ⟨ρ,.tuple #[],w,by simp [Builtin.clear_,run_underlying hu],⟨unit,h,Ev.refl _ _ _ _ _ h.dom⟩,rfl,rfl⟩
     .rename_i b off len cap;cases hd with
      | sl _ _ _ _ l c hρ eM hlc=>
       rcases (by cases hl0:Nat.beq len 0 with
         | true=>rw [hl0] at ha;exact .inl ⟨rfl,ha⟩
         | false=>rw [hl0] at ha;exact .inr ⟨rfl,ha⟩:(Nat.beq len 0=true/\_)\/(Nat.beq len 0=false/\_)) with ⟨hl0,ha⟩ | ⟨hl0,ha⟩
       .have hl0:=Ah hl0;subst hl0;simp only [Af,Ae,Ac] at ha;obtain ⟨rfl,rfl⟩:=ha;exact ⟨ρ,.tuple #[],w,by simp [Builtin.clear_,run_underlying hu],⟨unit,h,Ev.refl _ _ _ _ _ h.dom⟩,rfl,rfl⟩
       .obtain ⟨hc,ha⟩:=Qr ha;simp only [Ad] at hc;obtain ⟨⟨hzl,hzs⟩,hfl⟩:=hc;have hzl:=Ah hzl;have hfl:=Aj hfl;split at ha
        .rename_i blk hm;obtain ⟨eO,ha⟩:=Qr ha;simp only [Ad,Be] at eO;obtain ⟨hno,eO⟩:=eO;have eO:=Aj eO;simp only [Ae,Ac] at ha;obtain ⟨rfl,rfl⟩:=ha;have hrl:(Co len zero).length =len*i.size:=(by rw [Q2,hzl]);have fL:Uj ρ (Co len zero) (Builtin.zeroCells z.cells len):=P3 hzr len (len*z.cells.size) (by rw [hzr.1]);have eU: ∀v∈(Builtin.zeroCells z.cells len).toList,v.oneCell'=true:=Zr.cells_oneCell fL (by
          grind [Co])
         obtain ⟨cur,el,hw,hcsz,eD⟩:=h.write hρ hm (off:=off) (cs:=Co len zero) (vs:=(Builtin.zeroCells z.cells len).toList) hno (by simpa using fL.1.symm) (by grind) (fun j h1 h2=>by simpa using fL.2 j h1 (by grind));have hst:=run_storeCells_at P l.blk (l.base+off) el (Builtin.zeroCells z.cells len).toList 0 cur w hw (by grind) eU;rw [Bn] at hst;have hne:len≠0:=fun e=>by simp_all
         refine ⟨ρ,.tuple #[],w.setRow l.blk (cur.toList.take (l.base+off)++(Builtin.zeroCells z.cells len).toList ++cur.toList.drop (l.base+off+(Builtin.zeroCells z.cells len).toList.length)).toArray,?_,⟨unit,?_,Ev.ofWrite h hρ hfl _ _⟩,rfl,rfl⟩;all_goals simp_all [Builtin.clear_,run_underlying,St.withMem]
        .cases ha
     .cases ha
    .cases ha
   .cases ha
 .cases ha
end
section
variable {P:Program} {ρ:B7}
structure Xm (floor:Nat) (st st':St):Prop where
 nxt:st.next<=st'.next
 bd:(∀b,st.next<=b->Yi st.mem b=none)-> ∀b,st'.next<=b->Yi st'.mem b=none
 low:floor<=st.next-> ∀b,b<floor->Yi st'.mem b=Yi st.mem b
 ob:st'.ob=true->st.ob=true
theorem Xm.refl (floor:Nat) (st:St):Xm floor st st:=⟨An _,fun h=>h,fun _ _ _=>rfl,fun h=>h⟩
theorem Xm.trans {floor:Nat} {a b c:St} (h:Xm floor a b) (k:Xm floor b c):Xm floor a c:=
 ⟨AN h.nxt k.nxt,fun x=>k.bd (h.bd x),fun x d hd=>(k.low (AN x h.nxt) d hd).trans (h.low x d hd),fun x=>h.ob (k.ob x)⟩
theorem Xm.write {floor:Nat} (st:St) {b:Nat} {ab:B8} (o:Option B8) (hf:floor<=b) (hm:Yi st.mem b=some ab):Xm floor st (st.withMem (Wx st.mem b o)) where
 nxt:=An _
 bd h k hk:=by
  have hne:k≠b:=fun e=>by rw [e,] at hk;rw [h b hk] at hm;cases hm
  show Yi (Wx st.mem b o) k=none;rw [Zx _ _ hne];exact h k hk
 low _ k hk:=Zx _ _ (by omega)
 ob h:=h
theorem Xm.new {floor:Nat} (st:St) (cs:List B3) (ty:TypeId):Xm floor st (Cj st cs ty) where
 nxt:=BW _
 bd h k hk:=by
  have hk':st.next+1<=k:=hk
  show Yi (Wx st.mem st.next _) k=none
  grind [Zx]
 low hf k hk:=Zx _ _ (by omega)
 ob h:=h
def Ef (R:CF):Prop:= ∀cx todo st st',R cx todo st=some st'->Xm cx.floor st st'
theorem Ww {cx:CI} {st st':St} {b:Bool} (h:st.owe cx b=some st'):st'.env=st.env/\st'.mem=st.mem/\st'.next=st.next/\(st'.ob=true->b=true/\st.ob=true):=by
 obtain ⟨env,mem,next,orc,ob⟩:=st
 grind [St.owe]
theorem QV {st st':St} {b e:Bool} (h:st.test b=(e,st')):st'.env=st.env/\st'.mem=st.mem/\st'.next=st.next/\(st'.ob=true->e=b/\st.ob=true):=by
 obtain ⟨env,mem,next,orc,ob⟩:=st;cases orc with
 | nil=>
  grind [St.test]
 | cons c r=>
  grind [St.test]
theorem Vj {cx:CI} {st st':St} {dst:Option Tmp} {v:B3} (h:st.put cx dst v=some st'):st'.mem=st.mem/\st'.next=st.next/\st'.ob=st.ob/\
  ((dst=none/\st'.env=st.env)\/ ∃d,dst=some d/\d<cx.n/\st'.env=T.set .undef st.env d v):=by
 obtain ⟨env,mem,next,orc,ob⟩:=st;cases dst with
 | none=>
  grind [St.put]
 | some d=>
  simp only [St.put] at h;cases hb:Nat.ble (d+1) cx.n with
  | false=>grind
  | true=>rw [hb,Af] at h;obtain rfl:=Ag h;exact ⟨rfl,rfl,rfl,.inr ⟨d,rfl,Aj hb,rfl⟩⟩
theorem Xm.same {floor:Nat} {st st':St} (hm:st'.mem=st.mem) (hn:st'.next=st.next) (ho:st'.ob=true->st.ob=true):Xm floor st st':=
 ⟨by grind,fun h b hb=>by grind,fun _ b _=>by rw [hm],ho⟩
theorem Zd {α:Type} {c:Bool} {x:Option α} {y:α} (h:(bif c then x else none)=some y):c=true/\x=some y:=by grind
theorem Ua {α:Type} {c:Bool} {x z:Option α} {y:α} (h:(bif c then x else z)=some y):(c=true/\x=some y)\/(c=false/\z=some y):=by grind
theorem v2a {floor:Nat} {st st':St} {t:TypeId} {x v:B3} (h:Ld P floor st t x v=some st'):Xm floor st st'/\st'.env=st.env:=by
 unfold Ld at h;split at h
 .obtain ⟨hc,h⟩:=Zd h;simp only [Ad] at hc;split at h
  .rename_i blk hm;obtain ⟨_,h⟩:=Zd h;obtain rfl:=Ag h;exact ⟨Xm.write st _ (Aj hc.1.1.1) hm,rfl⟩
  .cases h
 .cases h
theorem w4n {cx:CI} {st st':St} {t:TypeId} {x v:B3} (h:LI P cx st t x v=some st'):Xm cx.floor st st'/\st'.env=st.env:=by
 unfold LI at h;split at h
 .obtain ⟨hc,h⟩:=Zd h;simp only [Ad] at hc;split at h
  .rename_i blk hm;split at h
   .split at h
    .rename_i rw1 st1 fT;obtain ⟨s1,s2,s3,s4⟩:=X8 fT;obtain ⟨o1,o2,o3,o4⟩:=Ww h;have a1:Xm cx.floor st st1:=Xm.same s2 s3 fun x=>(s4 x).2;exact ⟨(a1.trans (Xm.write st1 _ (Aj hc.1.1.1.1) (by rw [s2];exact hm))).trans (Xm.same o2 o3 fun x=>(o4 x).2),o1.trans s1⟩
    .cases h
   .cases h
  .cases h
 .cases h
theorem y9o {st st':St} {t:TypeId} {len:Nat} {ps:List (Nat×B3)} {v:B3} {un:Bool} (floor:Nat) (h:Ku P un st t len ps=some (v,st')):Xm floor st st'/\st'.env=st.env:=by
 unfold Ku at h;split at h
 .split at h
  .obtain ⟨_,h⟩:=Zd h;split at h
   .simp only [Ae,Ac] at h;obtain ⟨_,rfl⟩:=h;exact ⟨Xm.new st _ _,rfl⟩
   .cases h
  .cases h
 .cases h
theorem z7n {st st':St} {t:TypeId} {x y v:B3} (floor:Nat) (h:Jy P st t x y=some (v,st')):Xm floor st st'/\st'.env=st.env:=by
 unfold Jy at h;split at h
 .split at h
  .obtain ⟨_,h⟩:=Zd h;simp only [Ae,Ac] at h;obtain ⟨_,rfl⟩:=h;exact ⟨Xm.new st _ _,rfl⟩
  .cases h
 .cases h
theorem w4w {floor:Nat} {st st':St} {ts:List TypeId} {xs:List B3} {v:B3} (h:Fr P floor st ts xs=some (v,st')):Xm floor st st'/\st'.env=st.env:=by
 unfold Fr at h;split at h
 .split at h
  .split at h
   .split at h
    .obtain ⟨_,h⟩:=Zd h;split at h
     .rcases Ua h with ⟨_,h⟩ | ⟨_,h⟩
      .grind [Xm.refl]
      .obtain ⟨_,h⟩:=Zd h;simp only [Ae,Ac] at h;obtain ⟨_,rfl⟩:=h;exact ⟨Xm.new st _ _,rfl⟩
     .split at h
      .rename_i blk hm;split at h
       .obtain ⟨_,h⟩:=Zd h;split at h
        .rcases Ua h with ⟨_,h⟩ | ⟨_,h⟩
         .obtain ⟨hc,h⟩:=Zd h;simp only [Ad] at hc;simp only [Ae,Ac] at h;obtain ⟨_,rfl⟩:=h;exact ⟨Xm.write st _ (Aj hc.1) hm,rfl⟩
         .simp only [Ae,Ac] at h;obtain ⟨_,rfl⟩:=h;exact ⟨Xm.new st _ _,rfl⟩
        .obtain ⟨hc,h⟩:=Zd h;simp only [Ad] at hc;have hf:=Aj hc.2;rcases Ua h with ⟨_,h⟩ | ⟨_,h⟩
         .simp only [Ae,Ac] at h;obtain ⟨_,rfl⟩:=h;exact ⟨Xm.write st _ hf hm,rfl⟩
         .obtain ⟨_,h⟩:=Zd h;simp only [Ae,Ac] at h;obtain ⟨_,rfl⟩:=h;exact ⟨(Xm.write st none hf hm).trans (Xm.new _ _ _),rfl⟩
       .cases h
      .cases h
     .cases h
    .cases h
   .cases h
  .cases h
 .cases h
theorem Xm.put {floor:Nat} (st:St) (cs:Option B8) {st':St} (hm:st'.mem=Wx st.mem st.next cs) (hn:st'.next=st.next+1) (ho:st'.ob=true->st.ob=true):Xm floor st st' where
 nxt:=by grind
 bd h k hk:=by
  grind [Zx]
 low hf k hk:=by grind [Zx]
 ob:=ho
theorem y9i {cx:CI} {st st':St} {t:TypeId} {x y v:B3} (h:Kv P cx st t x y=some (v,st')):Xm cx.floor st st'/\st'.env=st.env:=by
 unfold Kv at h;split at h
 .split at h
  .obtain ⟨_,h⟩:=Zd h;simp only [Ao,Ac] at h;obtain ⟨_,h1,_,rfl⟩:=h;obtain ⟨o1,o2,o3,o4⟩:=Ww h1;exact ⟨Xm.put st _ o2 (o3.trans rfl) fun x=>(o4 x).2,o1⟩
  .cases h
 .cases h
theorem x9a {cx:CI} {st st':St} {ts:List TypeId} {xs:List B3} {v:B3} (h:L3 P cx st ts xs=some (v,st')):Xm cx.floor st st'/\st'.env=st.env:=by
 unfold L3 at h;split at h
 .split at h
  .split at h
   .cases h
   .split at h
    .split at h
     .rename_i hm;split at h
      .obtain ⟨hc,h⟩:=Zd h;simp only [Ad] at hc;simp only [Ao,Ac] at h;obtain ⟨_,h1,_,rfl⟩:=h;obtain ⟨o1,o2,o3,o4⟩:=Ww h1;exact ⟨(Xm.write st none (Aj hc.1.2) hm).trans (Xm.put (st.withMem _) _ o2 (o3.trans rfl) fun x=>(o4 x).2),o1⟩
      .cases h
     .cases h
    .cases h
  .cases h
 .cases h
theorem u3n {floor:Nat} {st:St} {sz len:Nat} {x:B3} {b:Option Nat} {get:Nat->List B3} {o:Bool} (ht:PN st.mem sz x=some (b,len,get,o)) (hf:v7i floor b=true):Xm floor st (st.withMem (MD st.mem b)):=by
 cases b with
 | none=>exact Xm.refl _ _
 | some b=>
  have hm: ∃ab,Yi st.mem b=some ab:=by
   unfold PN at ht
   grind
  obtain ⟨ab,hm⟩:=hm;exact Xm.write st none (Aj hf) hm
theorem x8z {cx:CI} {st st':St} {ts:List TypeId} {xs:List B3} {v:B3} (h:HA P cx st ts xs=some (v,st')):Xm cx.floor st st'/\st'.env=st.env:=by
 unfold HA at h;split at h
 .split at h
  .split at h
   .split at h
    .rename_i ht _;obtain ⟨hc,h⟩:=Zd h;simp only [Ad] at hc;simp only [Ao,Ac] at h;obtain ⟨_,h1,_,rfl⟩:=h;obtain ⟨o1,o2,o3,o4⟩:=Ww h1;exact ⟨(u3n ht hc.2).trans (Xm.put (st.withMem _) _ o2 (o3.trans rfl) fun x=>(o4 x).2),o1⟩
    .cases h
   .cases h
  .cases h
 .cases h
theorem x9b {cx:CI} {st st':St} {ts:List TypeId} {xs:List B3} {v:B3} (h:I4 P cx st ts xs=some (v,st')):Xm cx.floor st st'/\st'.env=st.env:=by
 unfold I4 at h;rcases Ua h with ⟨_,h⟩ | ⟨_,h⟩
 .cases h
 rcases Ua h with ⟨_,h⟩ | ⟨_,h⟩;all_goals grind [x8z,x9a,w4w]
theorem v8x {floor:Nat} {st st':St} {ts:List TypeId} {xs:List B3} {v:B3} (h:Lw P floor st ts xs=some (v,st')):Xm floor st st'/\st'.env=st.env:=by
 unfold Lw at h;split at h
 .split at h
  .split at h
   .split at h
    .obtain ⟨_,h⟩:=Zd h;split at h
     .grind [Xm.refl]
     .obtain ⟨_,h⟩:=Zd h
      grind [Xm.refl]
     .dsimp only at h;split at h
      .rename_i blk hm;obtain ⟨hc,h⟩:=Zd h;simp only [Ad] at hc;simp only [Ae,Ac] at h;obtain ⟨_,rfl⟩:=h;exact ⟨Xm.write st _ (Aj hc.2.1) hm,rfl⟩
      .cases h
     .cases h
    .cases h
   .cases h
  .cases h
 .cases h
theorem v2f {floor:Nat} {st st':St} {ts:List TypeId} {xs:List B3} {v:B3} (h:Lb P floor st ts xs=some (v,st')):Xm floor st st'/\st'.env=st.env:=by
 unfold Lb at h;split at h
 .split at h
  .split at h
   .split at h
    .grind [Xm.refl]
    .rcases Ua h with ⟨_,h⟩ | ⟨_,h⟩
     .grind [Xm.refl]
     .obtain ⟨hc,h⟩:=Zd h;simp only [Ad] at hc;split at h
      .rename_i blk hm;obtain ⟨_,h⟩:=Zd h;simp only [Ae,Ac] at h;obtain ⟨_,rfl⟩:=h;exact ⟨Xm.write st _ (Aj hc.2) hm,rfl⟩
      .cases h
    .cases h
   .cases h
  .cases h
 .cases h
theorem x8v {S:B6} {R:CF} (hR:Ef R) {lift:Bool} {f:FuncId} {args:List B3} {cx:CI} {st st':St} {v:B3} (h:Ps P S R lift f args cx st=some (v,st')):
  (Xm cx.floor st st'/\(lift=true-> ∀b,b<st.next->Hz S f args≠some b->Yi st'.mem b=Yi st.mem b))/\st'.env=st.env:=by
 unfold Ps at h;split at h
 .rcases Ua h with ⟨_,h⟩ | ⟨_,h⟩
  .split at h
   .obtain ⟨_,h⟩:=Zd h;simp only [Ao,Ac] at h
    grind [Ww,Xm.same]
   .cases h
  .split at h;split at h
   .obtain ⟨_,h⟩:=Zd h;simp only [Ao,Ac] at h
    grind [Ww,Xm.same]
   .cases h
 .split at h
  .rename_i v0 b blk o _;split at h
   .rename_i ab hm;obtain ⟨hc,h⟩:=Zd h;simp only [Ad,Be] at hc;simp only [Ao,Ac] at h;obtain ⟨st1,h1,_,rfl⟩:=h;obtain ⟨e1,e2,e3,e4⟩:=Ww h1;exact ⟨⟨(Xm.write st (some blk) (Aj hc.2) hm).trans (Xm.same e2 e3 fun x=>(e4 x).2),fun hl=>by grind⟩,e1⟩
   .cases h
  .cases h
 .rename_i ty0 F hF;split at h
  .rename_i b sz n sz' r;split at h
   .rename_i cells ty A hm;obtain ⟨hc,h⟩:=Zd h;simp only [Ad] at hc;split at h
    .rename_i n' g o _;simp only [Ao,Ac] at h;obtain ⟨st1,h1,_,rfl⟩:=h;obtain ⟨env,mem,next,orc,ob⟩:=st;simp only at h1 hm ⊢;obtain ⟨e1,e2,e3,e4⟩:=Ww h1;simp only at e1 e2 e3 e4;have hle:=Aj hc.2.2.1;refine ⟨⟨⟨?_,fun hb k hk=> ?_,fun hf k hk=> ?_,fun x=>(e4 x).2⟩,fun _ k hk hn=> ?_⟩,e1⟩;all_goals grind [Zx,Hz]
    .cases h
   .cases h
  .cases h
 .split at h
  .split at h
   .split at h
    .rename_i st2 hr;split at h
     .simp only [Ae,Ac] at h;obtain ⟨_,rfl⟩:=h;have q:=hR _ _ _ _ hr;refine ⟨?_,rfl⟩;cases lift with
      | false=>exact ⟨⟨q.nxt,q.bd,q.low,q.ob⟩,fun x=>by cases x⟩
      | true=>refine ⟨⟨q.nxt,q.bd,fun hf b hb=>q.low (An _) b (A4 hb hf),q.ob⟩,fun _ b hb _=>q.low (An _) b hb⟩
     .cases h
    .cases h
   .cases h
  .cases h
theorem v2c {cx:CI} {st st':St} {ts:List TypeId} {b sz off len:Nat} {x v:B3} (h:Ie P cx st ts b sz off len x=some (v,st')):Xm cx.floor st st'/\st'.env=st.env:=by
 unfold Ie at h;split at h
 .split at h
  .split at h
   .rename_i hm;split at h
    .obtain ⟨hc,h⟩:=Zd h;simp only [Ad] at hc;simp only [Ao,Ac] at h;obtain ⟨_,h1,_,rfl⟩:=h;obtain ⟨o1,o2,o3,o4⟩:=Ww h1;exact ⟨(Xm.write st _ (Aj hc.1) hm).trans (Xm.same o2 o3 fun x=>(o4 x).2),o1⟩
    .cases h
   .cases h
  .cases h
 .cases h
theorem v2d {cx:CI} {st st':St} {ts:List TypeId} {xs:List B3} {v:B3} (h:P8 P cx st ts xs=some (v,st')):Xm cx.floor st st'/\st'.env=st.env:=by
 unfold P8 at h
 grind [v2c,v8x]
theorem y9l {S:B6} {R:CF} (hR:Ef R) {lift:Bool} {op:Op} {cx:CI} {st st':St} {v:B3} (h:Vp P S R lift op cx st=some (v,st')):Xm cx.floor st st'/\st'.env=st.env:=by
 unfold Vp at h;split at h
 .split at h
  .rename_i hl;obtain ⟨l1,l2,l3,l4⟩:=UP hl;simp only [Ao,Ac] at h
   grind [Ww,Xm.same]
  .cases h
 .simp only [Ao,Ac] at h;obtain ⟨_,_,_,rfl⟩:=h;exact ⟨Xm.new st _ _,rfl⟩
 .obtain ⟨_,h⟩:=Zd h;simp only [Ae,Ac] at h;obtain ⟨_,rfl⟩:=h;exact ⟨Xm.new st _ _,rfl⟩
 .exact y9o _ h
 .split at h
  .simp only [Ao,Ac] at h
   grind [w4n]
  .simp only [Ao,Ac] at h
   grind [v2a]
 .rcases Ua h with ⟨_,h⟩ | ⟨_,h⟩
  .rcases Ua h with ⟨_,h⟩ | ⟨_,h⟩
   .have q:=z7n (st:=st.dropO) cx.floor h;exact ⟨⟨q.1.nxt,q.1.bd,q.1.low,q.1.ob⟩,q.2⟩
   .have q:=y9i (st:=st.dropO) h;exact ⟨⟨q.1.nxt,q.1.bd,q.1.low,q.1.ob⟩,q.2⟩
  .exact z7n _ h
 all_goals grind [x9b,v2d,v2f,x8v]
def D5 (x:Nat) (st st':St):Prop:=Yi st'.mem x=Yi st.mem x
theorem Kq {x b:Nat} (st:St) (o:Option B8) (hn:b≠x):D5 x st (st.withMem (Wx st.mem b o)):=Zx _ _ fun e=>hn e.symm
theorem PM {x:Nat} (st:St) (cs:List B3) (ty:TypeId) (hx:x<st.next):D5 x st (Cj st cs ty):=Zx _ _ (Bi hx)
theorem w4m {x:Nat} {floor:Nat} {st st':St} {t:TypeId} {a v:B3} (h:Ld P floor st t a v=some st') (hn: ∀off,a≠ .ptr x off):D5 x st st':=by
 unfold Ld at h;split at h
 .rename_i b off _ _;obtain ⟨_,h⟩:=Zd h;split at h
  .obtain ⟨_,h⟩:=Zd h
   grind [Kq]
  .cases h
 .cases h
theorem x8p {x:Nat} {cx:CI} {st st':St} {t:TypeId} {a v:B3} (h:LI P cx st t a v=some st') (hn: ∀sz r fo,a≠ .epa x sz r fo):D5 x st st':=by
 unfold LI at h;split at h
 .rename_i b sz r fo _ _;obtain ⟨_,h⟩:=Zd h;split at h
  .split at h
   .split at h
    .rename_i rw1 st1 fT;obtain ⟨_,s2,_,_⟩:=X8 fT;obtain ⟨_,o2,_,_⟩:=Ww h;unfold D5;rw [o2,<-s2];exact Kq st1 _ fun e=>hn sz r fo (by rw [e])
    .cases h
   .cases h
  .cases h
 .cases h
theorem y4m {x:Nat} {st st':St} {t:TypeId} {len:Nat} {ps:List (Nat×B3)} {v:B3} {un:Bool} (hx:x<st.next) (h:Ku P un st t len ps=some (v,st')):D5 x st st':=by
 unfold Ku at h;split at h
 .split at h
  .obtain ⟨_,h⟩:=Zd h
   grind [PM]
  .cases h
 .cases h
theorem z6d {x:Nat} {st st':St} {t:TypeId} {l c v:B3} (hx:x<st.next) (h:Jy P st t l c=some (v,st')):D5 x st st':=by
 unfold Jy at h;split at h
 .split at h
  .obtain ⟨_,h⟩:=Zd h
   grind [PM]
  .cases h
 .cases h
theorem x8y {x floor:Nat} {st st':St} {ts:List TypeId} {xs:List B3} {v:B3} (hx:x<st.next) (h:Fr P floor st ts xs=some (v,st')) (hn: ∀off len cap r,xs≠ .sl x off len cap::r):D5 x st st':=by
 unfold Fr at h;split at h
 .split at h
  .split at h
   .split at h
    .obtain ⟨_,h⟩:=Zd h;split at h
     .rcases Ua h with ⟨_,h⟩ | ⟨_,h⟩
      .simp only [Ae,Ac] at h;obtain ⟨_,rfl⟩:=h;rfl
      .obtain ⟨_,h⟩:=Zd h
       grind [PM]
     .have hb:=fun e=>hn _ _ _ _ (Au (fun b=>B3.sl b _ _ _::_) e);split at h
      .rename_i blk hm;split at h
       .obtain ⟨_,h⟩:=Zd h;split at h
        .rcases Ua h with ⟨_,h⟩ | ⟨_,h⟩
         .obtain ⟨hc,h⟩:=Zd h
          grind [Kq]
         grind [PM]
        .obtain ⟨hc,h⟩:=Zd h;rcases Ua h with ⟨_,h⟩ | ⟨_,h⟩
         .grind [Kq]
         .obtain ⟨_,h⟩:=Zd h;simp only [Ae,Ac] at h;obtain ⟨_,rfl⟩:=h;exact (PM (st.withMem (Wx st.mem _ none)) _ _ hx).trans (Kq st none hb)
       .cases h
      .cases h
     .cases h
    .cases h
   .cases h
  .cases h
 .cases h
theorem y4j {x:Nat} {cx:CI} {st st':St} {t:TypeId} {l c v:B3} (hx:x<st.next) (h:Kv P cx st t l c=some (v,st')):D5 x st st':=by
 unfold Kv at h;split at h
 .split at h
  .obtain ⟨_,h⟩:=Zd h;simp only [Ao,Ac] at h;obtain ⟨_,h1,_,rfl⟩:=h;obtain ⟨_,o2,_,_⟩:=Ww h1
   grind [D5,Zx]
  .cases h
 .cases h
theorem x5f {x:Nat} {cx:CI} {st st':St} {ts:List TypeId} {xs:List B3} {v:B3} (hx:x<st.next) (h:L3 P cx st ts xs=some (v,st')) (hn: ∀sz off len cap r,xs≠ .sla x sz off len cap::r):D5 x st st':=by
 unfold L3 at h;split at h
 .have hb:=fun e=>hn _ _ _ _ _ (Au (fun b=>B3.sla b _ _ _ _::_) e);split at h
  .split at h
   .cases h
   .split at h
    .split at h
     .split at h
      .obtain ⟨hc,h⟩:=Zd h;simp only [Ao,Ac] at h;obtain ⟨_,h1,_,rfl⟩:=h;obtain ⟨_,o2,_,_⟩:=Ww h1
       grind [D5,Zx]
      .cases h
     .cases h
    .cases h
  .cases h
 .cases h
theorem y9w {m:CD} {sz len b:Nat} {x:B3} {get:Nat->List B3} {o:Bool} (ht:PN m sz x=some (some b,len,get,o)):(∃off len cap,x=.sl b off len cap)\/ ∃sz off len cap,x=.sla b sz off len cap:=by
 unfold PN at ht
 grind
theorem x5e {x:Nat} {cx:CI} {st st':St} {ts:List TypeId} {xs:List B3} {v:B3} (hx:x<st.next) (h:HA P cx st ts xs=some (v,st')) (hn: ∀off len cap r,xs≠ .sl x off len cap::r) (hn2: ∀sz off len cap r,xs≠ .sla x sz off len cap::r):D5 x st st':=by
 unfold HA at h;split at h
 .split at h
  .split at h
   .split at h
    .rename_i b len get o1 n g o2 ht _;obtain ⟨hc,h⟩:=Zd h;simp only [Ao,Ac] at h;obtain ⟨_,h1,_,rfl⟩:=h;obtain ⟨_,o2,_,_⟩:=Ww h1;unfold D5;rw [o2];show Yi (Wx (MD st.mem b) st.next _) x=_;rw [Zx _ _ (Bi hx)];cases b with
     | none=>rfl
     | some b=>
      refine Zx _ _ fun e=> ?_
      grind [y9w]
    .cases h
   .cases h
  .cases h
 .cases h
theorem x5g {x:Nat} {cx:CI} {st st':St} {ts:List TypeId} {xs:List B3} {v:B3} (hx:x<st.next) (h:I4 P cx st ts xs=some (v,st')) (hn: ∀off len cap r,xs≠ .sl x off len cap::r) (hn2: ∀sz off len cap r,xs≠ .sla x sz off len cap::r):D5 x st st':=by
 unfold I4 at h;rcases Ua h with ⟨_,h⟩ | ⟨_,h⟩
 .cases h
 rcases Ua h with ⟨_,h⟩ | ⟨_,h⟩;all_goals grind [x5e,x5f,x8y]
theorem v2b {x floor:Nat} {st st':St} {ts:List TypeId} {xs:List B3} {v:B3} (h:Lw P floor st ts xs=some (v,st')) (hn: ∀off len cap r,xs≠ .sl x off len cap::r):D5 x st st':=by
 unfold Lw at h;split at h
 .split at h
  .split at h
   .split at h
    .obtain ⟨_,h⟩:=Zd h;split at h
     .simp only [Ae,Ac] at h;obtain ⟨_,rfl⟩:=h;rfl
     .obtain ⟨_,h⟩:=Zd h;simp only [Ae,Ac] at h;obtain ⟨_,rfl⟩:=h;rfl
     .have hb:=fun e=>hn _ _ _ _ (Au (fun b=>B3.sl b _ _ _::_) e);dsimp only at h;split at h
      .obtain ⟨hc,h⟩:=Zd h
       grind [Kq]
      .cases h
     .cases h
    .cases h
   .cases h
  .cases h
 .cases h
theorem w4r {x:Nat} {cx:CI} {st st':St} {ts:List TypeId} {b sz off len:Nat} {y v:B3} (h:Ie P cx st ts b sz off len y=some (v,st')) (hn:b≠x):D5 x st st':=by
 unfold Ie at h;split at h
 .split at h
  .split at h
   .split at h
    .obtain ⟨_,h⟩:=Zd h;simp only [Ao,Ac] at h;obtain ⟨_,h1,_,rfl⟩:=h;obtain ⟨_,o2,_,_⟩:=Ww h1;show Yi _ x=_;rw [o2];exact Kq st _ hn
    .cases h
   .cases h
  .cases h
 .cases h
theorem w4s {x:Nat} {cx:CI} {st st':St} {ts:List TypeId} {xs:List B3} {v:B3} (h:P8 P cx st ts xs=some (v,st')) (hn: ∀off len cap r,xs≠ .sl x off len cap::r) (hn2: ∀sz off len cap r,xs≠ .sla x sz off len cap::r) (hn3: ∀sz off len r,xs≠ .slv x sz off len::r):D5 x st st':=by
 unfold P8 at h
 grind [w4r,v2b]
theorem w4u {x floor:Nat} {st st':St} {ts:List TypeId} {xs:List B3} {v:B3} (h:Lb P floor st ts xs=some (v,st')) (hn: ∀off len cap r,xs≠ .sl x off len cap::r):D5 x st st':=by
 unfold Lb at h;split at h
 .split at h
  .split at h
   .split at h
    .simp only [Ae,Ac] at h;obtain ⟨_,rfl⟩:=h;rfl
    .have hb:=fun e=>hn _ _ _ _ (Au (fun b=>B3.sl b _ _ _::_) e);rcases Ua h with ⟨_,h⟩ | ⟨_,h⟩
     .simp only [Ae,Ac] at h;obtain ⟨_,rfl⟩:=h;rfl
     .obtain ⟨hc,h⟩:=Zd h;split at h
      .obtain ⟨_,h⟩:=Zd h
       grind [Kq]
      .cases h
    .cases h
   .cases h
  .cases h
 .cases h
theorem x8t {S:B6} {R:CF} {lift:Bool} {op:Op} {cx:CI} {st st':St} {v:B3} {x:Nat} (hk:Xp op=.chain) (hx:x<st.next) (hn:Dt op st.eval≠some x) (h:Vp P S R lift op cx st=some (v,st')):D5 x st st':=by
 cases op with
 | store t a y=>
  simp only [Vp] at h;split at h
  .rename_i b sz r fo hb;simp only [Ao,Ac] at h
   grind [x8p,Dt]
  .simp only [Ao,Ac] at h
   grind [w4m,Dt]
 | box t y=>
  unfold Vp at h;simp only at h;obtain ⟨_,h⟩:=Zd h
  grind [PM]
 | buildSlice t n ps=>exact y4m hx h
 | makeSlice t l c=>
  unfold Vp at h;simp only at h;rcases Ua h with ⟨_,h⟩ | ⟨_,h⟩
  .rcases Ua h with ⟨_,h⟩ | ⟨_,h⟩
   .exact (z6d (st:=st.dropO) hx h)
   .exact (y4j (st:=st.dropO) hx h)
  .exact z6d hx h
 | call c=>
  obtain ⟨callee,args,argTypes⟩:=c;cases callee with
  | builtin b=>
   cases b <;> first
    | (simp [Xp] at hk;done)
    | exact x5g hx h (fun off len cap r e=>hn (by simp only [Dt,e])) (fun sz off len cap r e=>hn (by simp only [Dt,e]))
    | exact w4s h (fun off len cap r e=>hn (by simp only [Dt,e])) (fun sz off len cap r e=>hn (by simp only [Dt,e])) (fun sz off len r e=>hn (by simp only [Dt,e]))
    | exact w4u h fun off len cap r e=>hn (by simp only [Dt,e])
  | value f=>simp [Xp] at hk
  | invoke r m=>simp [Xp] at hk
 | _=>simp [Xp] at hk
theorem Kz : ∀(d:Nat) (a:B3) (u:Value),pf d a=true->Zr ρ a u->Zr ρ.bare a u
 | 0,_,_,h,_=>by simp [pf] at h
 | d+1,a,u,h,hr=>by
  cases hr with
  | undef=>simp [pf] at h
  | bool=>exact .bool _
  | int=>exact .int _ _
  | str=>exact .str _
  | mapr=>simp [pf] at h
  | ifbt=>exact .ifbt
  | ifbf=>exact .ifbf _ _
  | agg cs vs hl hh=>simp only [pf,Ax] at h;exact .agg cs vs hl fun i h1 h2=>Kz d _ _ (h _ (A3 h1)) (hh i h1 h2)
  | tup cs vs hl hh=>simp only [pf,Ax] at h;exact .tup cs vs hl fun i h1 h2=>Kz d _ _ (h _ (A3 h1)) (hh i h1 h2)
  | ptr=>simp [pf] at h
  | nilp=>exact .nilp
  | sl=>simp [pf] at h
  | sla=>simp [pf] at h
  | slan=>simp [pf] at h
  | slv=>simp [pf] at h
  | slve=>simp [pf] at h
  | slvn=>simp [pf] at h
  | nnl=>simp [pf] at h
  | epa=>simp [pf] at h
  | nils=>exact .nils
  | fn f cs vs hl hh=>obtain rfl:cs=[]:=List.isEmpty_iff.1 h;exact .fn f [] vs hl fun i h1=>absurd h1 (AC _)
  | nilf=>exact .nilf
  | fnb=>simp [pf] at h
  | yld=>simp [pf] at h
  | ifc=>simp [pf] at h
  | nili=>exact .nili
  | dat len get blk base sz cap val eM hsz hv hh=>exact .dat len get blk base sz cap val eM hsz hv hh
  | datn get=>exact .datn get
  | datz get a c=>exact .datz get a c
  | dptr cs blk base val hv hh=>exact .dptr cs blk base val hv hh
def Pq (P:Program) (f:FuncId) (F:List B3->Option (B3×Bool)):Prop:=
 ∀args v,F args=some (v,true)-> ∀(H:Dv) (vals:Array Value) (w:World),Vo (Zr (DD H)) args vals.toList->(∀k o,H k=some o->w.heap[k]? =some o)->Glob H->
  Calls P f vals w fun e w'=> ∃H' u,(∀k o,H k=some o->H' k=some o)/\(∀k o,H' k=some o->w'.heap[k]? =some o)/\(∀k,k<w.heap.size->H' k=H k)/\e=.returned u/\Zr (DD H') v u/\RowKit.Below w.heap.size w w'
def Gd (P:Program) (f:FuncId) (F:List B3->CD->Option (B3×Nat×B8×Bool)):Prop:=
 ∀args mem v b blk,F args mem=some (v,b,blk,true)->(Yi mem b).isSome =true-> ∀(ρ:B7) (next floor:Nat) (vals:Array Value) (w:World),floor<=b->Vo (Zr ρ) args vals.toList->B9 ρ mem next w->
  Calls P f vals w fun e w'=> ∃u,e=.returned u/\Zr ρ v u/\B9 ρ (Wx mem b (some blk)) next w'/\Ev ρ ρ floor mem next (Wx mem b (some blk)) next w w'
def Iu (H:Dv) (l:Option CR):B7:=⟨fun b=>if b=0 then l else none,H,fun _=>none⟩
def FQ (ty:TypeId) (sz n:Nat) (get:Nat->List B3):CD:=Wx .leaf 0 (some ⟨rows n get,ty,some ⟨sz,n,.flat get⟩⟩)
def LG (P:Program) (f:FuncId) (ty:TypeId) (F:Nat->(Nat->List B3)->List B3->Option (Nat×(Nat->List B3)×Bool)):Prop:=
 ∀ (sz n:Nat) (get:Nat->List B3) (r:List B3) (n':Nat) (g:Nat->List B3),F n get r=some (n',g,true)->KP sz n get=true->KP sz n' g=true->1<=sz-> ∀(H:Dv) (l:Option CR) (vals:Array Value) (w:World),
  Vo (Zr (Iu H l)) (.sla 0 sz 0 n (.un sz)::r) vals.toList->B9 (Iu H l) (FQ ty sz n get) 1 w->(∀k o,w.heap[k]? =some o->(∃l0,l=some l0/\l0.blk=k)\/H k=some o)->
  Calls P f vals w fun e w'=> ∃ρ' u m' nx b,e=.returned u/\Zr ρ' (.sla b sz 0 n' (.un sz)) u/\Yi m' b=some ⟨rows n' g,ty,some ⟨sz,n',.flat g⟩⟩/\B9 ρ' m' nx w'/\
   (∀k o,H k=some o->ρ'.fz k=some o)/\w.heap.size<=w'.heap.size/\w'.os=w.os/\w'.tape=w.tape/\w'.output=w.output
def Ox (P:Program) (f:FuncId):N7->Prop
 | .val F=>Pq P f F
 | .eff F=>Gd P f F
 | .gro ty F=>LG P f ty F
def Zv (P:Program) (S:B6):Prop:=
 ∀f F,S f=some F->(∃fn,P.funcs[f]? =some fn/\fn.body.isSome=true)/\Ox P f F
def j6e (P:Program):Prop:=(P.funcs[MJ]?).isSome =true-> ∀(b:Nat) (p v:Value) (w:World) (l:List UInt8),l.length<=9223372036854775807->w.heap[b]? =some (.cells #[p,v] DK (0,0))->
 ((v=.slice none 0 0/\l=[])\/ ∃g o c cur,v=.slice (some ⟨g,o,none⟩) l.length c/\l.length<=c/\w.heap[g]? =some (.cells cur Oj (0,0))/\(l≠ []->o+l.length<=cur.size)/\ ∀j x,l[j]? =some x->cur[o+j]? =some (.int .u8 x.toNat))->
 Calls P MJ #[.pointer (some ⟨b,0,none⟩)] w fun e w'=>e=.returned (.string ⟨l.toArray⟩)/\w.heap.size<=w'.heap.size/\
  (∀k o,w.heap[k]? =some o->(∀g o n c,v=.slice (some ⟨g,o,none⟩) n c->g≠k)->w'.heap[k]? =some o)/\w'.os=w.os/\w'.tape=w.tape/\w'.output=w.output
def EJ (P:Program):Prop:=(∀(f:FuncId) (fn:Func),P.funcs[f]? =some fn->fn.body.isSome=true->(fn.name == "runtime.NumGoroutine")=false)/\j6e P
def GX (P:Program) (R:CF):Prop:=
 ∀ cx todo st st',cx.floor<=st.next->R cx todo st=some st'->st'.ob=true-> ∀(ρ:B7) (a:Act) (w:World) (b:Frame) (cs:List Frame),a.defers=[]->Vk ρ st.env cx.n a.tmps->B9 ρ st.mem st.next w->
  ∃ρ' a' todo' w',Steps P (lone (b.at a todo) cs w) (lone {b.at a' todo' with mode:=.returning} cs w')/\a'.defers=[]/\Vk ρ' st'.env cx.n a'.tmps/\B9 ρ' st'.mem st'.next w'/\
   Ev ρ ρ' cx.floor st.mem st.next st'.mem st'.next w w'
theorem Y3 : ∀(args:List B3) (i:Nat) (t:T B3) (k:Nat),T.get .undef (Ey args i t) k=if i<=k/\k<i+args.length then args.getD (k - i) .undef else T.get .undef t k
 | [],i,t,k=>by rw [Az (by grind)];rfl
 | a::r,i,t,k=>by
  simp only [Ey];rw [Y3 r (i+1) _ k,T.get_set];by_cases h1:k=i
  .subst h1;rw [Az (by omega),AG rfl,AG (by simp)];simp
  .by_cases h2:i+1<=k/\k<i+1+r.length
   .rw [AG h2,AG (by simp;omega)];have:k - i=(k - (i+1))+1:=(by omega);rw [this];simp
   .rw [Az h2,Az h1,Az (by simp;omega)]
def Rn (tmps:Array Value):ResultVar->Sem Value
 | .tmp t=>pure (tmps.getD t undef)
 | .cell a t=>do loadVar t (<-asAddr (tmps.getD a undef))
theorem w9j (fn:Func) (tmps:Array Value):results fn tmps=(do
  let vs<-fn.results.mapM (Rn tmps)
  pure (if h:vs.size=1 then vs[0] else .tuple vs)):=by
 unfold results;have:(fun r:ResultVar=>(match r with | .tmp t=>pure (tmps.getD t undef) | .cell a t=>do loadVar t (<-asAddr (tmps.getD a undef)):Sem Value))=Rn tmps:=by
  funext r
  cases r <;> rfl
 rw [<-this];rfl
theorem x4z {st:St} {w:World} {tmps:Array Value} {n:Nat} (eI:Vk ρ st.env n tmps) (eD:B9 ρ st.mem st.next w) {r:ResultVar} {v:B3} (h:V9 P st r=some v):
  ∃u,Zr ρ v u/\(Rn tmps r).run P w=.ok u w:=by
 have get: ∀t,Zr ρ (st.tmp t) (tmps.getD t undef):=fun t=>eI.get t;cases r with
 | tmp t=>simp only [V9,Ae] at h;subst h;exact ⟨_,get t,rfl⟩
 | cell a t=>
  simp only [V9] at h;obtain ⟨z,hz,hr⟩:=y9j eD h (get a);refine ⟨z,hz,?_⟩;have ha:=get a;unfold Rn;simp only;generalize tmps.getD a undef=u at ha hr ⊢;unfold Lx at h;split at h
  .rename_i e;rw [e] at ha;cases ha
   grind [Instr.loadAt,Instr.sureAddr,asAddr]
  .rename_i e;rw [e] at ha;cases ha
   grind [Instr.loadAt,Instr.sureAddr,asAddr]
  .cases h
theorem z7m {st:St} {w:World} {tmps:Array Value} {n:Nat} (eI:Vk ρ st.env n tmps) (eD:B9 ρ st.mem st.next w): ∀{rs:List ResultVar} {vs:List B3},Qx P st rs=some vs->
  ∃us,Vo (Zr ρ) vs us/\(rs.mapM (Rn tmps)).run P w=.ok us w
 | [],vs,h=>by simp only [Qx,Ae] at h;subst h;exact ⟨[],.nil,by simp⟩
 | r::rs,vs,h=>by
  unfold Qx at h;split at h
  .rename_i v vs' h1 h2;obtain rfl:=Ag h;obtain ⟨u,hu,hr⟩:=x4z eI eD h1;obtain ⟨us,hus,hrs⟩:=z7m eI eD h2;refine ⟨u::us,.cons hu hus,?_⟩;rw [List.mapM_cons,Sem.run_bind,hr];simp only [Result.andThen_ok,Sem.run_bind,hrs,Sem.run_pure]
  .cases h
theorem YH {fn:Func} {st:St} {w:World} {tmps:Array Value} {n:Nat} (eI:Vk ρ st.env n tmps) (eD:B9 ρ st.mem st.next w) {vs:List B3} (h:Qx P st fn.results.toList=some vs):
  ∃u,Zr ρ (Js vs) u/\(results fn tmps).run P w=.ok u w:=by
 obtain ⟨us,hus,hr⟩:=z7m eI eD h;refine ⟨if h:us.toArray.size=1 then us.toArray[0] else .tuple us.toArray,?_,?_⟩
 .cases hus with
  | nil=>exact .tup [] _ rfl fun i h1 _=>by simp at h1
  | cons h1 hs=>cases hs with
   | nil=>simpa [Js] using h1
   | cons h2 hs=>have fB:=Vo.cons h1 (Vo.cons h2 hs);have hl:=fB.length;simp only [Js];rw [dif_neg (by simp)];exact .tup _ _ (by grind) fun i h1 h2=>by simpa using fB.get i h1 (by grind)
 .rw [w9j,Sem.run_bind,Array.mapM_eq_mapM_toList,Sem.run_map,hr];rfl
theorem Y4 {args:List B3} {vals:Array Value} (h:Vo (Zr ρ) args vals.toList) (ntmps:Nat):
  Vk ρ (Ey args 0 .leaf) (Nat.max ntmps args.length) (vals++Array.replicate (ntmps - vals.size) undef):=by
 have hl:args.length=vals.size:=by simpa using h.length
 have hmax:Nat.max ntmps args.length=vals.size+(ntmps - vals.size):=by
  grind
 refine ⟨by grind,fun i=> ?_,fun i hi=> ?_⟩
 .rw [Y3];by_cases hi:i<args.length
  .rw [AG (by omega)];have h2:i<vals.toList.length:=by grind
   have:=h.get i hi h2;have e1:args.getD (i - 0) .undef =args[i]:=by simp [hi]
   have e2:(vals++Array.replicate (ntmps - vals.size) undef).getD i undef=vals.toList[i]:=by have h3:i<vals.size:=(by grind);simp [Array.getElem?_append,h3]
   grind
  .rw [Az (by omega)];exact .undef _
 .have hle:args.length<=Nat.max ntmps args.length:=Nat.le_max_right _ _;rw [Y3,Az (by omega)];rfl
theorem PU {f:FuncId} {fn:Func} (hN:EJ P) (hf:P.funcs[f]? =some fn) (hb:fn.body.isSome=true) (args:Array Value) (w:World):(callFunc f args).run P w=.ok (.enter f args) w:=by
 have h1: ¬fn.name= "runtime.NumGoroutine" :=by simpa using hN.1 f fn hf hb
 have h2: ¬fn.body=none:=by grind
 simp [callFunc,hf,h1,h2]
theorem x9k {mem:CD} {next:Nat} {w:World} (h:B9 ρ mem next w) {a a':B3} {o:Bool} (hv:u9e mem a=(a',o)) (ho:o=true) {u:Value} (hr:Zr ρ a u) (hp:pf 3 a'=true):Zr (DD fun k=>w.heap[k]?) a' u:=by
 subst ho;have hle:ρ.bare.le (DD fun k=>w.heap[k]?):=⟨fun _ _ e=>(by cases e),fun k o e=>h.old k o e,fun _ _ e=>(by cases e)⟩
 unfold u9e at hv;split at hv
 .rename_i b sz off len cap;split at hv
  .rename_i blk hm;split at hv
   .rename_i A hA;simp only [Ac,Ad,Ak] at hv;obtain ⟨rfl,h1,h2,h3⟩:=hv;obtain rfl:=Ah h1;have h3:= @Av _ (Classical.propDecidable _) h3;cases hr with
    | slan=>exact .datn _
    | sla _ _ _ _ _ l c hρ eM eE=>
     obtain ⟨fJ,fY,eR⟩:=(h.blk b l blk hρ hm).arr A hA;obtain ⟨cur,el,hh,_⟩:=((h.blk b l blk hρ hm).rows hA).cells;refine .dat len _ l.blk (l.base+off*A.sz) A.sz c (fun i j=>(w.cell? ⟨l.blk,l.base+(off+i)*A.sz+j,none⟩).getD undef) eE (fun i hi=>eR _ (by omega)) (fun i j hi hj=> ?_) (fun i j hi hj=> ?_)
     .obtain ⟨v,e1,e2⟩:=(h.rowAt hρ hm hA (r:=off+i) (by omega)) j hj;simp only [e1,Option.getD_some];exact (Kz 6 _ _ (Ax.1 (h3 (off+i)) _ (A3 hj)) e2).mono hle
     .obtain ⟨v,e1,e2⟩:=(h.rowAt hρ hm hA (r:=off+i) (by omega)) j (by grind);simp only [e1,Option.getD_some];refine ⟨cur,el,(0,0),hh,?_⟩
      grind [World.cell?]
   grind [pf]
  grind [pf]
 .simp only [Ac] at hv;obtain ⟨rfl,_⟩:=hv;exact (Kz 3 _ _ hp hr).mono hle
theorem x9l {mem:CD} {next:Nat} {w:World} (h:B9 ρ mem next w) {az:List B3} {us:List Value} (hr:Vo (Zr ρ) az us): ∀{az':List B3} {o:Bool},Rx mem az=(az',o)->o=true->az'.all (pf 3)=true->Vo (Zr (DD fun k=>w.heap[k]?)) az' us:=by
 induction hr with
 | nil=>intro az' o hv _ _;simp only [Rx,Ac] at hv;obtain ⟨rfl,_⟩:=hv;exact .nil
 | @cons a b l m h1 _ ih=>intro az' o hv ho hp;unfold Rx at hv;split at hv;rename_i a1 o1 as1 q1 e1 e2;simp only [Ac] at hv;obtain ⟨rfl,rfl⟩:=hv;simp only [Ad] at ho;simp only [List.all_cons,Ad] at hp;exact .cons (x9k h e1 ho.1 h1 hp.1) (ih e2 ho.2 hp.2)
theorem w8o {σ:B7} {v:B3} {u:Value} (hs:scal v=true) (h:Zr σ v u):Zr ρ v u:=by
 cases h with
 | bool=>exact .bool _
 | int=>exact .int _ _
 | str=>exact .str _
 | ifbt=>exact .ifbt
 | ifbf=>exact .ifbf _ _
 | tup cs vs hl hh=>
  simp only [scal,Ax] at hs;refine .tup cs vs hl fun i h1 h2=> ?_;have k1:=hs _ (A3 h1);have k2:=hh i h1 h2;generalize cs[i]=a at k1 k2;generalize vs[i]=b at k2;cases k2 with
  | undef=>exact .undef _
  | bool=>exact .bool _
  | int=>exact .int _ _
  | str=>exact .str _
  | ifbt=>exact .ifbt
  | ifbf=>exact .ifbf _ _
  | _=>simp at k1
 | _=>simp [scal] at hs
theorem u2k {sz n:Nat} {get:Nat->List B3} (h:KP sz n get=true): ∀i,i<n->(get i).length =sz/\(get i).all pl=true:= @Av _ (Classical.propDecidable _) h
theorem v4i {sz n:Nat} {get:Nat->List B3} (h:KP sz n get=true): ∀v∈rows n get,pl v=true:=fun v hv=>by
 obtain ⟨i,hi,hv⟩:=BD.1 hv
 grind [u2k]
theorem NM {v:B3} {u:Value} {ρ':B7} (h:pl v=true) (hr:Zr ρ v u):Zr ρ' v u:=by
 cases hr <;> first | exact .bool _ | exact .int _ _ | (cases h;done)
theorem Wt.pl {w:World} {ab:B8} {l:CR} (h:Wt ρ w ab l) (hp: ∀v∈ab.cells,pl v=true) (ρ':B7):Wt ρ' w ab l:=by
 cases h with
 | plain h=>
  obtain ⟨h0,h1,h2,h3,cs,el,h4,h5,h6⟩:=h;refine .plain ⟨h0,h1,h2,h3,cs,el,h4,h5,fun i hi=> ?_⟩
  grind [NM]
 | obj o r ty h n z=>subst h;have:=hp _ (AQ ..);cases this
theorem v7b {f:FuncId} {F:Nat->(Nat->List B3)->List B3->Option (Nat×(Nat->List B3)×Bool)} {ty:TypeId} (hF:LG P f ty F) {floor next:Nat} {mem:CD} {b sz n:Nat} {r:List B3} {cells:List B3} {A:DR} (hm:Yi mem b=some ⟨cells,ty,some A⟩)
  (hA:A.sz=sz/\A.n=n) (hr:r.all (pf 3)=true) (hfl:floor<=b) (hsz:1<=sz) {n':Nat} {g:Nat->List B3} (hv:F n A.get r=some (n',g,true)) (hp:KP sz n A.get=true) (hp':KP sz n' g=true)
  {vals:Array Value} (eG:Vo (Zr ρ) (.sla b sz 0 n (.un sz)::r) vals.toList) {w:World} (eD:B9 ρ mem next w):
  Calls P f vals w fun e w'=> ∃ρ' u,e=.returned u/\Zr ρ' (.sla next sz 0 n' (.un sz)) u/\B9 ρ' (Wx (Wx mem b none) next (some ⟨rows n' g,ty,some ⟨sz,n',.flat g⟩⟩)) (next+1) w'/\
   Ev ρ ρ' floor mem next (Wx (Wx mem b none) next (some ⟨rows n' g,ty,some ⟨sz,n',.flat g⟩⟩)) (next+1) w w':=by
 obtain ⟨rfl,rfl⟩:=hA;have hbn:b<next:=by
  rcases Ba b next with h | h
  .exact h
  .rw [eD.bd b h] at hm;cases hm
 let H:Dv:=fun k=>if∃l,ρ b=some l/\l.blk=k then none else w.heap[k]?
 have hH: ∀k,(¬ ∃l,ρ b=some l/\l.blk=k)->H k=w.heap[k]? :=fun k hk=>Az hk;have hHs: ∀k o,H k=some o->w.heap[k]? =some o/\ ¬ ∃l,ρ b=some l/\l.blk=k:=fun k o e=>by
  by_cases hk: ∃l,ρ b=some l/\l.blk=k;all_goals grind
 have hfz: ∀k o,ρ.fz k=some o->H k=some o:=fun k o e=>by
  rw [hH k fun ⟨l,h1,h2⟩=>by
   have:=eD.sep b l h1 (by rw [hm];rfl)
   grind]
  exact eD.old k o e
 have hbare:ρ.bare.le (Iu H (ρ b)):=⟨fun _ _ e=>(by cases e),hfz,fun _ _ e=>(by cases e)⟩
 have key: ∀(n0:Nat) (u:Value),Zr ρ (.sla b A.sz 0 n0 (.un A.sz)) u->Zr (Iu H (ρ b)) (.sla 0 A.sz 0 n0 (.un A.sz)) u:=fun n0 u h1=>by
  cases h1 with
  | sla _ _ _ _ _ l c h hc eE=>exact .sla 0 _ 0 _ _ l c (by show (if (0:Nat)=0 then ρ b else none)=_;grind) hc eE
  | slan _ _ _ _=>exact .slan _ _ _ _
 have hargs1:Vo (Zr (Iu H (ρ b))) (.sla 0 A.sz 0 A.n (.un A.sz)::r) vals.toList:=by
  generalize vals.toList=us at eG;cases eG with
  | cons h1 h2=>
   refine .cons ?_ ?_
   .grind
   .exact Vo.of h2.length fun i g1 g2=>(Kz 3 _ _ (Ax.1 hr _ (A3 g1)) (h2.get i g1 g2)).mono hbare
 have hget0: ∀l,Iu H (ρ b) 0=some l↔ρ b=some l:=fun l=>Iff.rfl;have eU: ∀c l,Iu H (ρ b) c=some l->c=0/\ρ b=some l:=fun c l e=>by
  have e:(if c=0 then ρ b else none)=some l:=e
  grind
 have hm1:Yi (FQ ty A.sz A.n A.get) 0=some ⟨rows A.n A.get,ty,some ⟨A.sz,A.n,.flat A.get⟩⟩:=Yz _ _ _;have fE:B9 (Iu H (ρ b)) (FQ ty A.sz A.n A.get) 1 w:=by
  refine ⟨fun c l e=>by grind,fun c c' l l' e e' _ _ _=>by grind,fun c l ab e hc=> ?_,fun k o e=>(hHs k o e).1,fun c l e _=> ?_,fun c l e=>eD.real b l (eU c l e).2,fun c hc=> ?_,⟨fun j l e=>(by cases e),eD.ldom.2.mono hfz⟩⟩
  .obtain ⟨rfl,e2⟩:=eU c l e;rw [hm1] at hc;obtain rfl:=Ag hc;have q:=(eD.blk b l _ e2 hm).rows rfl;obtain ⟨q0,q1,q2,q3,cs,el,q4,q5,q6⟩:=q;obtain ⟨a1,a2,a3⟩:=q3 A rfl;simp only at a1;subst a1;have q':Wt ρ w ⟨rows A.n A.get,ty,some ⟨A.sz,A.n,.flat A.get⟩⟩ l:=.plain ⟨q0,q1,q2,fun B e=>by
    obtain rfl:=Ag e;exact ⟨rfl,a2,a3⟩,cs,el,q4,q5,q6⟩
   exact q'.pl (v4i hp) _
  .obtain ⟨_,e2⟩:=eU c l e;exact AG ⟨l,e2,rfl⟩
  .show Yi (Wx .leaf 0 _) c=none;rw [Zx _ _ (by omega)];rfl
 have fB: ∀k o,w.heap[k]? =some o->(∃l0,ρ b=some l0/\l0.blk=k)\/H k=some o:=fun k o e=>by
  grind
 refine (hF A.sz A.n A.get r n' g hv hp hp' hsz H (ρ b) vals w hargs1 fE fB).mono fun e w' ⟨ρ1,u,m',nx,b1,he,hu,hmb,hr1,hfz1,gC,hos,htape,hout⟩=> ?_;have hgone: ∀k,(¬ ∃l,ρ b=some l/\l.blk=k)-> ∀o,w.heap[k]? =some o->w'.heap[k]? =some o/\ρ1.fz k=some o:=fun k hk o e=>by have h2:=hfz1 k o ((hH k hk).trans e);exact ⟨hr1.old k o h2,h2⟩
 let ρ':B7:=⟨fun c=>if c=next then ρ1 b1 else ρ c,ρ.fz,ρ.lp⟩
 have eL: ∀c l,ρ' c=some l->(c=next/\ρ1 b1=some l)\/(c≠next/\ρ c=some l):=fun c l e=>by
  grind
 have hnew:ρ' next=ρ1 b1:=AG rfl
 have holdc: ∀c,c<next->ρ' c=ρ c:=fun c hc=>Az (by omega)
 have hle:ρ.le ρ':=⟨fun c l e=>by rw [holdc c (eD.dom c l e)];exact e,fun _ _ e=>e,fun _ _ e=>e⟩
 have hm': ∀c,c≠next->Yi (Wx (Wx mem b none) next (some ⟨rows n' g,ty,some ⟨A.sz,n',.flat g⟩⟩)) c=if c=b then none else Yi mem c:=fun c hc=>by
  grind [Zx,Yz]
 have hmn:Yi (Wx (Wx mem b none) next (some ⟨rows n' g,ty,some ⟨A.sz,n',.flat g⟩⟩)) next=some ⟨rows n' g,ty,some ⟨A.sz,n',.flat g⟩⟩:=Yz _ _ _
 have hother: ∀c l,ρ c=some l->(Yi mem c).isSome =true->c≠b-> ¬ ∃l',ρ b=some l'/\l'.blk=l.blk:=fun c l e hs hcb ⟨l',e',hb⟩=>hcb (eD.inj c b l l' e e' hb.symm hs (by rw [hm];rfl));have gD: ∀c l,ρ c=some l-> ∃o,w.heap[l.blk]? =some o:=fun c l e=>⟨_,BF (eD.real c l e)⟩
 have hsepn: ∀l,ρ1 b1=some l->ρ1.fz l.blk=none:=fun l e=>hr1.sep b1 l e (by rw [hmb];rfl);have eV:Zr ρ' (.sla next A.sz 0 n' (.un A.sz)) u:=by
  cases hu with
  | sla _ _ _ _ _ l c h hc eE=>exact .sla next _ 0 _ _ l c (hnew.trans h) hc eE
  | slan _ _ _ _=>exact .slan _ _ _ _
 refine ⟨ρ',u,he,eV,?_,?_⟩
 .refine ⟨fun c l e=> ?_,fun c c' l l' e e' hbl hs hs'=> ?_,fun c l ab e hc=> ?_,fun k o e=> ?_,fun c l e hs=> ?_,fun c l e=> ?_,fun c hc=> ?_,⟨fun j l e=>Bm (eD.ldom.1 j l e),eD.ldom.2⟩⟩
  .rcases eL c l e with ⟨rfl,_⟩ | ⟨_,e⟩
   .omega
   .have:=eD.dom c l e;omega
  .have clash: ∀c l l',c≠next->ρ c=some l->ρ1 b1=some l'->l.blk=l'.blk->(Yi (Wx (Wx mem b none) next (some ⟨rows n' g,ty,some ⟨A.sz,n',.flat g⟩⟩)) c).isSome =true->False:=fun c l l' hc e e' hbl hs=>by
    grind
   rcases eL c l e with ⟨h1,h2⟩ | ⟨h1,h2⟩ <;> rcases eL c' l' e' with ⟨h1',h2'⟩ | ⟨h1',h2'⟩
   .rw [h1,h1']
   .grind
   .grind
   .rw [hm' c h1] at hs;rw [hm' c' h1'] at hs';by_cases hcb:c=b
    .grind
    .by_cases hcb':c'=b
     .grind
     .rw [Az hcb] at hs;rw [Az hcb'] at hs';exact eD.inj c c' l l' h2 h2' hbl hs hs'
  .rcases eL c l e with ⟨h1,h2⟩ | ⟨h1,h2⟩
   .subst h1;rw [hmn] at hc;obtain rfl:=Ag hc;have q:=(hr1.blk b1 l _ h2 hmb).pl (v4i hp') ρ';exact .plain ⟨(q.rows rfl).typ,q.n,q.tot,q.arr,(q.rows rfl).cells⟩
   .rw [hm' c h1] at hc;by_cases hcb:c=b
    .grind
    .rw [Az hcb] at hc;obtain ⟨o,ho⟩:=gD c l h2;refine (eD.blk c l ab h2 hc).world hle ?_;rw [(hgone l.blk (hother c l h2 (by rw [hc];rfl) hcb) o ho).1,ho]
  .have h1:=hfz k o e;obtain ⟨h2,h3⟩:=hHs k o h1;exact (hgone k h3 o h2).1
  .rcases eL c l e with ⟨h1,h2⟩ | ⟨h1,h2⟩
   .cases hq:ρ.fz l.blk with
    | none=>rfl
    | some o=>
     grind
   .rw [hm' c h1] at hs;by_cases hcb:c=b
    .grind
    .rw [Az hcb] at hs;exact eD.sep c l h2 hs
  .rcases eL c l e with ⟨h1,h2⟩ | ⟨h1,h2⟩
   .exact hr1.real b1 l h2
   grind
  .rw [hm' c (by omega),Az (by omega)];exact eD.bd c (by omega)
 .refine ⟨hle,fun c hc=>holdc c hc,by omega,fun c hc hn cs ty2 hq=> ?_,fun k o hk hn=> ?_,fun c l hc e=> ?_,gC,hos,htape,hout,fun k _=>rfl⟩
  .grind
  .exact (hgone k (fun ⟨l,h1,h2⟩=>hn b l h1 hfl h2) o hk).1
  .rcases eL c l e with ⟨h1,h2⟩ | ⟨h1,h2⟩
   .rcases Ba l.blk w.heap.size with h | h
    .rcases fB l.blk _ (BF h) with ⟨l0,h3,h4⟩ | h3;all_goals grind
    grind
   grind
theorem y9n {S:B6} {R:CF} (hS:Zv P S) (hR:GX P R) {lift:Bool} {f:FuncId} {args:List B3} {cx:CI} {st st':St} {v:B3} (hcx:cx.floor<=st.next) (h:Ps P S R lift f args cx st=some (v,st')) (hob:st'.ob=true)
  {vals:Array Value} (eG:Vo (Zr ρ) args vals.toList) {w:World} (eD:B9 ρ st.mem st.next w):
  (∃fn,P.funcs[f]? =some fn/\fn.body.isSome=true)/\Calls P f vals w fun e w'=> ∃ρ' u,e=.returned u/\DX ρ cx.floor st st' v w ρ' u w':=by
 unfold Ps at h;split at h
 .rename_i F hF;rcases Ua h with ⟨hca,h⟩ | ⟨_,h⟩
  .split at h
   .rename_i v' b hFa;obtain ⟨hc2,h⟩:=Zd h;have hc1:=Ax.1 hca;simp only [Ao,Ac] at h;obtain ⟨st1,h1,rfl,rfl⟩:=h;obtain ⟨_,e2,e3,e4⟩:=Ww h1;obtain ⟨rfl,_⟩:=e4 hob;obtain ⟨hfn,eS⟩:=hS f _ hF;refine ⟨hfn,?_⟩;have hargs0:Vo (Zr ρ.bare) args vals.toList:=Vo.of eG.length fun i g1 g2=>Kz 3 _ _ (hc1 _ (A3 g1)) (eG.get i g1 g2);refine (eS args v' hFa ρ.fz vals w hargs0 eD.old eD.ldom.2).mono fun e w' ⟨H',u,hle,hold,eQ,he,hv,hb⟩=>⟨⟨ρ.f,H',ρ.lp⟩,u,he,Zr.mono (ρ:=DD H') (ρ':=⟨ρ.f,H',ρ.lp⟩) ⟨fun _ _ e=>(by cases e),fun _ _ e=>e,fun _ _ e=>(by cases e)⟩ hv,?_,?_⟩
    .rw [e2,e3];have hle':ρ.le ⟨ρ.f,H',ρ.lp⟩:=⟨fun _ _ e=>e,hle,fun _ _ e=>e⟩
     exact ⟨eD.dom,eD.inj,fun b l ab q1 q2=>(eD.blk b l ab q1 q2).world hle' (hb.block _ (eD.real b l q1)),hold,fun b l q hs=>(eQ _ (eD.real b l q)).trans (eD.sep b l q hs),fun b l q=>A4 (eD.real b l q) hb.size,eD.bd,eD.ldom.1,eD.ldom.2.mono hle⟩
    .rw [e2,e3];exact ⟨⟨fun _ _ e=>e,hle,fun _ _ e=>e⟩,fun _ _=>rfl,An _,fun _ _ _ _ _ h=>h,fun k o hk _=>by rw [hb.block k (AB.1 hk).1];exact hk,
      fun b l hb' hl=>by grind,hb.size,hb.os,hb.tape,hb.output,eQ⟩
   .cases h
  .split at h;rename_i args' o hview;split at h
   .rename_i v' b hFa;obtain ⟨hc,h⟩:=Zd h;simp only [Ad] at hc;simp only [Ao,Ac] at h;obtain ⟨st1,h1,rfl,rfl⟩:=h;obtain ⟨_,e2,e3,e4⟩:=Ww h1;obtain ⟨hob1,_⟩:=e4 hob;simp only [Ad] at hob1;obtain ⟨ho,rfl⟩:=hob1;obtain ⟨hfn,eS⟩:=hS f _ hF;refine ⟨hfn,?_⟩;have hargs0:=x9l eD eG hview ho hc.1;refine (eS args' v' hFa (fun k=>w.heap[k]?) vals w hargs0 (fun _ _ e=>e) (eD.ldom.2.mono eD.old)).mono fun e w' ⟨H',u,hle,hold,eQ,he,hv,hb⟩=>⟨ρ,u,he,w8o hc.2 hv,?_,?_⟩
    .rw [e2,e3];exact ⟨eD.dom,eD.inj,fun b l ab q1 q2=>(eD.blk b l ab q1 q2).world (B7.le_refl _) (hb.block _ (eD.real b l q1)),fun k o q=>by rw [hb.block k (AB.1 (eD.old k o q)).1];exact eD.old k o q,eD.sep,fun b l q=>A4 (eD.real b l q) hb.size,eD.bd,eD.ldom⟩
    .rw [e2,e3];exact ⟨B7.le_refl _,fun _ _=>rfl,An _,fun _ _ _ _ _ h=>h,fun k o hk _=>by grind,
      fun b l hb' hl=>by grind,hb.size,hb.os,hb.tape,hb.output,fun _ _=>rfl⟩
   .cases h
 .rename_i F hF;split at h
  .rename_i v0 b blk o hFa;split at h
   .rename_i ab hm;obtain ⟨hc,h⟩:=Zd h;simp only [Ad] at hc;simp only [Ao,Ac] at h;obtain ⟨st1,h1,rfl,rfl⟩:=h;obtain ⟨_,e2,e3,e4⟩:=Ww h1;obtain ⟨rfl,_⟩:=e4 hob;obtain ⟨hfn,eS⟩:=hS f _ hF;refine ⟨hfn,?_⟩;refine (eS args st.mem v0 b blk hFa (by rw [hm];rfl) ρ st.next cx.floor vals w (Aj hc.2) eG eD).mono fun e w' ⟨u,he,hv,hr,hev⟩=>⟨ρ,u,he,hv,?_,?_⟩
    .rw [e2,e3];exact hr
    .rw [e2,e3];exact hev
   .cases h
  .cases h
 .rename_i ty0 F hF;split at h
  .rename_i b sz n sz' r;split at h
   .rename_i cells ty A hm;obtain ⟨hc,h⟩:=Zd h;simp only [Ad] at hc;obtain ⟨⟨c0,c1,c2⟩,c4,c5,c6⟩:=hc;have c0:=Ah c0;split at h
    .rename_i n' g o hFa;simp only [Ao,Ac] at h;obtain ⟨st1,h1,rfl,rfl⟩:=h;obtain ⟨env,mem,next,orc,ob⟩:=st;simp only at h1 hm hcx eD ⊢;obtain ⟨_,e2,e3,e4⟩:=Ww h1;obtain ⟨hob1,_⟩:=e4 hob;simp only [Ad] at hob1;obtain ⟨rfl,c3,hp,hp'⟩:=hob1;obtain ⟨hfn,eS⟩:=hS f _ hF;rw [<-c0] at eS;obtain rfl:=Ah c1;refine ⟨hfn,?_⟩;refine (v7b eS hm ⟨Ah c2,Ah c3⟩ c4 (Aj c5) (Aj c6) hFa hp hp' eG eD).mono fun e w' ⟨ρ',u,he,hv,hr,hev⟩=>⟨ρ',u,he,hv,?_,?_⟩
     all_goals grind
    .cases h
   .cases h
  .cases h
 .split at h
  .rename_i fn hf;split at h
   .rename_i body hb;split at h
    .rename_i st2 hr;split at h
     .rename_i vs hvs;simp only [Ae,Ac] at h;obtain ⟨rfl,rfl⟩:=h;refine ⟨⟨fn,hf,by rw [hb];rfl⟩,?_⟩;intro cs
      let b:Frame:={(default:Frame) with fn:=f,kind:=.normal}
      have gE:Frame.enter P f vals .normal =b.at {tmps:=vals++Array.replicate (fn.ntmps - vals.size) undef,defers:=[]} [.code body]:=by simp [Frame.enter,Frame.at,hf,hb,b]
      obtain ⟨ρ',a',todo',w',eX,hd,eI,eZ,hev⟩:=hR _ _ _ _ (by
       cases lift with
       | false=>exact hcx
       | true=>exact An _) hr hob ρ {tmps:=vals++Array.replicate (fn.ntmps - vals.size) undef,defers:=[]} w b cs rfl (Y4 eG fn.ntmps) eD
      obtain ⟨u,hu,gH⟩:=YH eI eZ hvs;rw [<-gE] at eX;refine ⟨.returned u,w',_,⟨ρ',u,rfl,hu,eZ,?_⟩,eX,rfl,rfl,hd,rfl,fn,hf,gH⟩;refine hev.lower ?_
      grind
     .cases h
    .cases h
   .cases h
  .cases h
theorem x5c {S:B6} {R:CF} (hN:EJ P) (hS:Zv P S) (hR:GX P R) {lift:Bool} {o:Oper} {cx:CI} {st st':St} {v:B3} (hcx:cx.floor<=st.next)
  (h:Vp P S R lift o.op cx st=some (v,st')) (hob:st'.ob=true) {ev:Operand->B3} (hev: ∀x,x∈o.op.operands->ev x=st.eval x) {a:Act} (hr:Qv ρ ev a.eval o.op) {w:World} (eD:B9 ρ st.mem st.next w):
  N5 P o a w (DX ρ cx.floor st st' v w):=by
 obtain ⟨dst,op,type,pos,after,guard⟩:=o;simp only at h hr hev
 replace hr:Qv ρ st.eval a.eval op:=fun x hx=>by rw [<-hev x hx];exact hr x hx
 clear hev;unfold Vp at h;split at h
 .rename_i t x;split at h
  .rename_i v' b st0 hv;obtain ⟨l1,l2,l3,l4⟩:=UP hv;simp only [Ao,Ac] at h;obtain ⟨st1,h1,rfl,rfl⟩:=h;obtain ⟨e1,e2,e3,e4⟩:=Ww h1;obtain ⟨rfl,hob0⟩:=e4 hob;obtain ⟨z,hz,eH⟩:=y3w eD (l4 hob0).1 (hr x (by simp [Op.operands]));exact .inl ⟨ρ,z,w,by simp [execOp,eH],hz,by grind,by rw [e2,e3,l2,l3];exact Ev.refl _ _ _ _ _ eD.dom⟩
  .cases h
 .rename_i t;simp only [Ao,Ac] at h;obtain ⟨z,hz,rfl,rfl⟩:=h;obtain ⟨_,zv,_,_,hzr,hzv⟩:=Wi (ρ:=ρ) hz;refine .inl ⟨_,.pointer (some ⟨w.heap.size,0,none⟩),_,?_,PI eD cx.floor z t zv.cells t (by rw [hzr.1];grind) hzr.2 _ _ fun ρ' hρ'=>.ptr _ 0 _ hρ'⟩;simp_all [execOp,Instr.alloc,newVar,newRow]
 .rename_i t x;obtain ⟨hbx,h⟩:=Zd h;simp only [Ae,Ac] at h;obtain ⟨rfl,rfl⟩:=h;have hc:=(hr x (by simp [Op.operands])).cells hbx;refine .inl ⟨_,.pointer (some ⟨w.heap.size,0,none⟩),_,?_,PI eD cx.floor _ t (a.eval x).cells t (by rw [hc.1];grind) hc.2 _ _ fun ρ' hρ'=>.ptr _ 0 _ hρ'⟩;simp [execOp,Instr.box,newVar,newRow]
 .rename_i t len parts;obtain ⟨ρ',u,w',eH,hp,_,_⟩:=y3b eD cx.floor h (UT parts.toList fun p hp=>hr p.2 (by grind [Op.operands]));refine .inl ⟨ρ',u,w',?_,hp⟩;have:(parts.map fun (i,x)=>(i,a.eval x))=(parts.toList.map fun p=>(p.1,a.eval p.2)).toArray :=by
   grind
  simp [execOp,this,eH]
 .rename_i t x y;split at h
  .rename_i b sz r fo hb;simp only [Ao,Ac] at h;obtain ⟨st1,h,rfl,rfl⟩:=h;have hx:=hr x (by simp [Op.operands]);rw [hb] at hx;obtain ⟨w',eH,hp⟩:=x4y eD h hob hx (hr y (by simp [Op.operands]));exact .inr (.inl ⟨ρ,w',by simp [execOp,eH],hp⟩)
  .simp only [Ao,Ac] at h;obtain ⟨st1,h,rfl,rfl⟩:=h;obtain ⟨w',eH,hp,_,_⟩:=x8o eD h (hr x (by simp [Op.operands])) (hr y (by simp [Op.operands]));exact .inr (.inl ⟨ρ,w',by simp [execOp,eH],hp⟩)
 .rename_i t l c;rcases Ua h with ⟨_,h⟩ | ⟨_,h⟩
  .rcases Ua h with ⟨_,h⟩ | ⟨_,h⟩
   .obtain ⟨ρ',u,w',eH,hp,_,_⟩:=YP (st:=st.dropO) eD cx.floor h (hr l (by simp [Op.operands])) (hr c (by simp [Op.operands]));exact .inl ⟨ρ',u,w',by simp [execOp,eH],hp.val,hp.rel,hp.ev⟩
   .obtain ⟨ρ',u,w',eH,hp⟩:=y2y (st:=st.dropO) eD h hob (hr l (by simp [Op.operands])) (hr c (by simp [Op.operands]));exact .inl ⟨ρ',u,w',by simp [execOp,eH],hp.val,hp.rel,hp.ev⟩
  .obtain ⟨ρ',u,w',eH,hp,_,_⟩:=YP eD cx.floor h (hr l (by simp [Op.operands])) (hr c (by simp [Op.operands]));exact .inl ⟨ρ',u,w',by simp [execOp,eH],hp⟩
 .rename_i args argTypes;have eG:Vo (Zr ρ) (args.toList.map st.eval) (args.map a.eval).toList :=by rw [Bu];exact Vo.maps _ _ _ fun x hx=>hr x (by grind [Op.operands,Call.operands])
  unfold I4 at h;rcases Ua h with ⟨_,h⟩ | ⟨hty,h⟩
  .cases h
  rw [Bool.not_eq_false'] at hty;rcases Ua h with ⟨_,h⟩ | ⟨_,h⟩
  .obtain ⟨ρ',u,w',eH,hp⟩:=x0j (type:=type) eD h hob eG hty;exact .inl ⟨ρ',u,w',by simp_all [execOp,resolve,invoke,builtin],hp⟩
  split at h
  .rename_i hxs;obtain ⟨ρ',u,w',eH,hp,_⟩:=z7o (type:=type) eD h hob (hxs ▸ eG) (by rw [hxs] at hty;exact hty);exact .inl ⟨ρ',u,w',by simp_all [execOp,resolve,invoke,builtin],hp⟩
  .obtain ⟨ρ',u,w',eH,hp,_,_⟩:=UZ (type:=type) eD cx.floor h eG hty;exact .inl ⟨ρ',u,w',by simp_all [execOp,resolve,invoke,builtin],hp⟩
 .rename_i args argTypes;have eG:Vo (Zr ρ) (args.toList.map st.eval) (args.map a.eval).toList :=by rw [Bu];exact Vo.maps _ _ _ fun x hx=>hr x (by grind [Op.operands,Call.operands])
  unfold P8 at h;split at h
  .rename_i b sz off len cap x xs hxs;obtain ⟨ρ',u,w',eH,hp⟩:=y3x (type:=type) (d:=.sla b sz off len cap) eD h hob (hxs ▸ eG) fun u hu=>by
    cases hu with
    | sla _ _ _ _ _ l c hρ _ eE=>grind
    | slan=>grind
   exact .inl ⟨ρ',u,w',by simp_all [execOp,resolve,invoke,builtin],hp⟩
  .rename_i b sz off len x xs hxs;obtain ⟨ρ',u,w',eH,hp⟩:=y3x (type:=type) (d:=.slv b sz off len) eD h hob (hxs ▸ eG) fun u hu=>by
    cases hu with
    | slv _ _ _ _ l c hρ eE=>grind
    | slve _ _ _ blk base c=>grind
    | slvn=>grind
   exact .inl ⟨ρ',u,w',by simp_all [execOp,resolve,invoke,builtin],hp⟩
  .obtain ⟨ρ',u,w',eH,hp,_,_⟩:=w4q (type:=type) eD cx.floor h eG;exact .inl ⟨ρ',u,w',by simp_all [execOp,resolve,invoke,builtin],hp⟩
 .rename_i args argTypes;have eG:Vo (Zr ρ) (args.toList.map st.eval) (args.map a.eval).toList :=by rw [Bu];exact Vo.maps _ _ _ fun x hx=>hr x (by grind [Op.operands,Call.operands])
  obtain ⟨ρ',u,w',eH,hp,_,_⟩:=x8u (type:=type) eD cx.floor h eG;exact .inl ⟨ρ',u,w',by simp_all [execOp,resolve,invoke,builtin],hp⟩
 .rename_i f args argTypes;split at h
  .rename_i g caps hg;have hf:=hr f (by simp [Op.operands,Call.operands]);rw [hg] at hf;generalize hw:a.eval f=u at hf;cases hf with
   | fn _ _ cvs hl hh=>
    have eG:Vo (Zr ρ) (args.toList.map st.eval++caps) (args.map a.eval++cvs).toList :=by rw [Array.toList_append,Bu];exact Vo.append (Vo.maps _ _ _ fun x hx=>hr x (by grind [Op.operands,Call.operands])) (Vo.of (by grind) fun i h1 h2=>by grind)
    obtain ⟨⟨fn,hfn,hb⟩,hc⟩:=y9n hS hR hcx h hob eG eD;refine .inr (.inr ⟨g,args.map a.eval++cvs,?_,hc⟩);simp_all [PU,execOp,resolve,Deferred.ofValue,invoke]
  .rename_i g first hg
   have hf:=hr f (by simp [Op.operands,Call.operands]);rw [hg] at hf;generalize hw:a.eval f=u at hf;cases hf with
   | fnb _ _ cvs hl hh=>
    have eG:Vo (Zr ρ) (first++args.toList.map st.eval) (cvs++args.map a.eval).toList :=by rw [Array.toList_append,Bu];exact Vo.append (Vo.of (by grind) fun i h1 h2=>by grind) (Vo.maps _ _ _ fun x hx=>hr x (by grind [Op.operands,Call.operands]))
    obtain ⟨⟨fn,hfn,hb⟩,hc⟩:=y9n hS hR hcx h hob eG eD;refine .inr (.inr ⟨g,cvs++args.map a.eval,?_,hc⟩);simp_all [PU,execOp,resolve,Deferred.ofValue,invoke]
  .cases h
 .cases h
end
section
variable {P:Program} {ρ:B7}
theorem Vk.congr {env env':T B3} {n:Nat} {tmps:Array Value} (h:Vk ρ env n tmps) (he: ∀t,T.get .undef env' t=T.get .undef env t):Vk ρ env' n tmps:=
 ⟨h.size,fun i=>by rw [he];exact h.get i,fun i hi=>by rw [he];exact h.out i hi⟩
theorem Vk.eval {st:St} {n:Nat} {a:Act} (h:Vk ρ st.env n a.tmps) (x:Operand):Zr ρ (st.eval x) (a.eval x):=by
 cases x with
 | tmp t=>exact h.get t
 | const v=>exact v5t v
 | global g=>exact .undef _
 | func f=>exact .fn f [] #[] rfl fun i h1 _=>by simp at h1
theorem Vk.put {env env':T B3} {n:Nat} {a:Act} (h:Vk ρ env n a.tmps) {dst:Option Tmp} {v:B3} {u:Value} (hv:Zr ρ v u)
  (hp:(dst=none/\env'=env)\/ ∃d,dst=some d/\d<n/\env'=T.set .undef env d v):Vk ρ env' n (a.put dst u).tmps :=by
 rcases hp with ⟨rfl,rfl⟩ | ⟨d,rfl,hd,rfl⟩
 .exact h
 .have hsz:=h.size;refine ⟨by simp [Act.put,hsz],fun i=> ?_,fun i hi=> ?_⟩
  .rw [T.get_set];by_cases hi:i=d
   .simp_all [Act.put]
   .rw [Az hi];have:=h.get i
    simpa [Act.put,Array.getElem?_setIfInBounds_ne (Ne.symm hi)] using this
  .rw [T.get_set,Az (Nat.ne_of_gt (A4 hd hi))];exact h.out i hi
theorem Act.put_defers' (a:Act) (dst:Option Tmp) (v:Value):(a.put dst v).defers =a.defers:=by cases dst <;> rfl
theorem v1z {ops:Array Oper} {o:Oper} {cx:CI} {st st':St} {e:Bool} (h:HG ops o cx st=some (e,st')):st'.mem=st.mem/\st'.next=st.next/\(st'.ob=true->st.ob=true/\ ∀t,st'.tmp t=st.tmp t):=by
 unfold HG at h;split at h
 .grind
 .split at h
  .cases h
  .rename_i d hd;split at h
   .rename_i b hb;split at h;rename_i e1 st1 ht;split at h
    .rename_i st2 hp;simp only [Ae,Ac] at h;obtain ⟨_,rfl⟩:=h;obtain ⟨t1,t2,t3,t4⟩:=QV ht;obtain ⟨p1,p2,p3,p4⟩:=Vj hp;refine ⟨p1.trans t2,p2.trans t3,fun ho=> ?_⟩;rw [p3] at ho;obtain ⟨rfl,ho⟩:=t4 ho;refine ⟨ho,fun t=> ?_⟩;rcases p4 with ⟨e,_⟩ | ⟨d',e,_,he⟩
     .cases e
     .obtain rfl:=Ag e;show T.get .undef st2.env t=T.get .undef st.env t;rw [he,t1,T.get_set];split
      .rename_i h;subst h;exact hb.symm
      .rfl
    .cases h
   all_goals grind
def Us (ops:Array Oper) (o:Oper):Option Tmp:=o.guard.bind fun g=>(ops[g.1]?).bind (·.dst)
theorem w4l {ops:Array Oper} {o:Oper} {cx:CI} {st st':St} {e:Bool} (h:HG ops o cx st=some (e,st')) (ho:st'.ob=true) {tmps:Array Value} (hsz:tmps.size=cx.n)
  (hr: ∀d,Us ops o=some d->Zr ρ (st.tmp d) (tmps.getD d undef)):Region.wanted o (yielded ops tmps)=e:=by
 unfold HG at h;unfold Region.wanted;split at h
 .grind
 .rename_i j want hg;rw [hg];simp only;split at h
  .cases h
  .rename_i d hd;have hrd:=hr d (by simp [Us,hg,hd]);split at h
   .rename_i b hb;split at h;rename_i e1 st1 ht;split at h
    .rename_i st2 hp;simp only [Ae,Ac] at h;obtain ⟨rfl,rfl⟩:=h;obtain ⟨_,_,_,t4⟩:=QV ht;obtain ⟨_,_,p3,p4⟩:=Vj hp;rw [p3] at ho;obtain ⟨rfl,_⟩:=t4 ho;rcases p4 with ⟨e,_⟩ | ⟨d',e,hlt,_⟩
     .cases e
     .obtain rfl:=Ag e;rw [hb] at hrd;have hlt':d<tmps.size:=(by grind);have eL:tmps.getD d undef=tmps[d]:=(by simp [hlt']);rw [eL] at hrd;have:yielded ops tmps j=some e1:=by unfold yielded;rw [hd];simp only [Option.bind_some,BF hlt'];generalize tmps[d]=u at hrd;cases hrd;rfl
      grind
    .cases h
   .rename_i hb;simp only [Ae,Ac] at h;obtain ⟨rfl,rfl⟩:=h;rw [hb] at hrd;have:yielded ops tmps j=none:=by
     unfold yielded;rw [hd];simp only [Option.bind_some];by_cases hlt:d<tmps.size
     .have eL:tmps.getD d undef=tmps[d]:=(by simp [hlt]);rw [eL] at hrd;rw [BF hlt];generalize tmps[d]=u at hrd;cases hrd;rfl
     grind
    grind
   .cases h
theorem v8i {cx:CI} {t:Nat} {kd:IntKind} {n:Int} {st st':St} (ht:st.tmp t=.int kd n) (h:st.conc cx t kd n=some st'):st'.mem=st.mem/\st'.next=st.next/\(st'.ob=true->st.ob=true/\ ∀t,st'.tmp t=st.tmp t):=by
 obtain ⟨env,mem,next,orc,ob⟩:=st;cases orc with
 | nil=>
  obtain rfl:=Ag h
  grind
 | cons o r=>
  unfold St.conc at h;obtain ⟨_,h⟩:=Zd h;obtain rfl:=Ag h;refine ⟨rfl,rfl,fun ho=> ?_⟩;simp only [Ad,Ak] at ho;refine ⟨ho.2,fun k=> ?_⟩;show T.get .undef (T.set .undef env t _) k=T.get .undef env k;rw [T.get_set];split
  .rename_i e;subst e;rw [<-ho.1];exact ht.symm
  .rfl
theorem v2e {o:Oper} {cx:CI} {st st':St} (h:W7 o cx st=some st'):st'.mem=st.mem/\st'.next=st.next/\(st'.ob=true->st.ob=true/\ ∀t,st'.tmp t=st.tmp t):=by
 grind [W7,v8i]
theorem Qy {ops:Array Oper} {o:Oper} {cx:CI} {st st':St} {e:Bool} (h:Fs ops o cx st=some (e,st')): ∃st1,HG ops o cx st=some (e,st1)/\st'.mem=st1.mem/\st'.next=st1.next/\(st'.ob=true->st1.ob=true/\ ∀t,st'.tmp t=st1.tmp t)/\(Xp o.op=.alloc \/e=false->st'=st1):=by
 unfold Fs at h;split at h
 .rename_i st1 h1;split at h
  .rename_i st2 h2;simp only [Ae,Ac] at h;obtain ⟨rfl,rfl⟩:=h;obtain ⟨c1,c2,c3⟩:=v2e h2;refine ⟨st1,h1,c1,c2,c3,fun hk=> ?_⟩;rcases hk with hk | hk
   .unfold W7 at h2;split at h2
    .rename_i ho;rw [ho] at hk;cases hk
    .rename_i ho;rw [ho] at hk;cases hk
    grind
   .cases hk
  .cases h
 grind
theorem Wf {ops:Array Oper} {o:Oper} {cx:CI} {st st':St} {e:Bool} (h:Fs ops o cx st=some (e,st')):st'.mem=st.mem/\st'.next=st.next/\(st'.ob=true->st.ob=true/\ ∀t,st'.tmp t=st.tmp t):=by
 grind [Qy,v1z]
theorem Ub {ops:Array Oper} {o:Oper} {cx:CI} {st st':St} {e:Bool} (h:Fs ops o cx st=some (e,st')) (ho:st'.ob=true) {tmps:Array Value} (hsz:tmps.size=cx.n)
  (hg: ∀d,Us ops o=some d->Zr ρ (st.tmp d) (tmps.getD d undef)):Region.wanted o (yielded ops tmps)=e:=by
 obtain ⟨st1,h1,_,_,c3,_⟩:=Qy h;exact w4l h1 (c3 ho).1 hsz hg
structure j6f (P:Program) (cx:CI) (o:Oper) (st st':St) (v:B3):Prop where
 ob:st.ob=true
 does: ∀(ρ:B7) (a:Act) (w:World) (ev:Operand->B3),(∀x,x∈o.op.operands->ev x=st.eval x)->Qv ρ ev a.eval o.op->B9 ρ st.mem st.next w->N5 P o a w (DX ρ cx.floor st st' v w)
 calm:(Xp o.op=.pure \/Xp o.op=.read)-> ∀(ρ:B7) (a:Act) (w:World) (ev:Operand->B3) (mem:CD) (next:Nat),(∀x,x∈o.op.operands->ev x=st.eval x)->Qv ρ ev a.eval o.op->B9 ρ mem next w->
  (∀t y b ab,o.op=.load t y->EY o.op ev=some b->Yi st.mem b=some ab->Yi mem b=some ab)-> ∃u,(execOp a.eval o).run P w=.ok (.value u) w/\Zr ρ v u
theorem v6t {op:Op} {ev:Operand->B3} {x:B3×Bool} (h:Qe P op ev=some x):Xp op=.pure :=by
 cases op with
 | call c=>
  obtain ⟨callee,args,argTypes⟩:=c;cases callee with
  | builtin b=>cases b <;> first | rfl | (simp [Qe,U1] at h)
  | value f=>simp [Qe] at h
  | invoke r m=>rfl
 | _=>first | rfl | (simp [Qe] at h;done)
theorem w1v {S:B6} {R:CF} (hN:EJ P) (hS:Zv P S) (hRI:Ef R) (hR:GX P R) {lift:Bool} {o:Oper} {cx:CI} {st st':St} (hcx:cx.floor<=st.next) (h:Ln P S R lift o cx st=some st'):
  ∃v stm,stm.put cx o.dst v=some st'/\stm.env=st.env/\Xm cx.floor st stm/\((Xp o.op=.pure \/Xp o.op=.read)->stm.mem=st.mem/\stm.next=st.next)/\
   (lift=true->Xp o.op=.call -> ∀b,b<st.next->EU S o.op st.eval≠some b->Yi stm.mem b=Yi st.mem b)/\
   (Xp o.op=.chain -> ∀b,b<st.next->Dt o.op st.eval≠some b->Yi stm.mem b=Yi st.mem b)/\
   (Xp o.op=.alloc ->v=.ptr st.next 0/\ ∃t z,o.op=.alloc t/\EO P t=some z/\stm=Cj st z t)/\
   (st'.ob=true->j6f P cx o st stm v):=by
 unfold Ln at h;split at h
 .rename_i v b hp;have hk:=v6t hp;split at h
  .rename_i st1 h1;obtain ⟨e1,e2,e3,e4⟩:=Ww h1;refine ⟨v,st1,h,e1,Xm.same e2 e3 fun x=>(e4 x).2,fun _=>⟨e2,e3⟩,(fun _ hc=>by grind),(fun hc=>by grind),(fun hc=>by grind),fun ho=> ?_⟩;obtain ⟨_,_,p3,_⟩:=Vj h;rw [p3] at ho;obtain ⟨rfl,ho1⟩:=e4 ho;refine ⟨ho1,fun ρ a w ev hev hr eD=> ?_,fun _ ρ a w ev mem next hev hr eD hag=> ?_⟩
   .have hr':Qv ρ st.eval a.eval o.op:=fun x hx=>by rw [<-hev x hx];exact hr x hx
    obtain ⟨u,hu,eH⟩:=y9g hp rfl hr';exact .inl ⟨ρ,u,w,eH w,hu,by grind,by rw [e2,e3];exact Ev.refl _ _ _ _ _ eD.dom⟩
   .have hr':Qv ρ st.eval a.eval o.op:=fun x hx=>by rw [<-hev x hx];exact hr x hx
    grind [y9g]
  .cases h
 .split at h
  .rename_i v stm he;obtain ⟨fU,eI⟩:=y9l hRI he;refine ⟨v,stm,h,eI,fU,fun hk=> ?_,fun hl hk b hb hw=> ?_,fun hk b hb hn=>x8t hk hb hn he,fun hk=> ?_,fun ho=> ?_⟩
   .obtain ⟨dst,op,type,pos,after,guard⟩:=o;simp only at hk he;cases op with
    | load t x=>
     simp only [Vp] at he;split at he
     .rename_i hl;obtain ⟨l1,l2,l3,l4⟩:=UP hl;simp only [Ao,Ac] at he
      grind [Ww]
     .cases he
    | call c=>
     obtain ⟨callee,args,argTypes⟩:=c;cases callee with
     | builtin b=>cases b <;> first | (simp [Vp] at he;done) | (simp [Xp] at hk;done)
     | value f=>simp [Xp] at hk
     | invoke r m=>simp [Vp] at he
    | _=>first | (simp [Vp] at he;done) | (simp [Xp] at hk;done)
   .obtain ⟨dst,op,type,pos,after,guard⟩:=o;simp only at hk he;cases op with
    | call c=>
     obtain ⟨callee,args,argTypes⟩:=c;cases callee with
     | builtin b=>cases b <;> first | (simp [Vp] at he;done) | (simp [Xp] at hk;done)
     | value f=>
      grind [Vp,x8v,EU]
     | invoke r m=>simp [Vp] at he
    | _=>first | (simp [Vp] at he;done) | (simp [Xp] at hk;done)
   .obtain ⟨dst,op,type,pos,after,guard⟩:=o;simp only at hk he;cases op with
    | alloc t=>
     simp only [Vp,Ao,Ac] at he
     grind
    | call c=>
     obtain ⟨callee,args,argTypes⟩:=c;cases callee with
     | builtin b=>cases b <;> first | (simp [Vp] at he;done) | (simp [Xp] at hk;done)
     | value f=>simp [Xp] at hk
     | invoke r m=>simp [Vp] at he
    | _=>first | (simp [Vp] at he;done) | (simp [Xp] at hk;done)
   .obtain ⟨_,_,p3,_⟩:=Vj h;rw [p3] at ho;refine ⟨fU.ob ho,fun ρ a w ev hev hr eD=>x5c hN hS hR hcx he ho hev hr eD,fun hk ρ a w ev mem next hev hr eD hag=> ?_⟩;obtain ⟨dst,op,type,pos,after,guard⟩:=o;simp only at hk he hev hr hag;cases op with
    | load t x=>
     simp only [Vp] at he;split at he
     .rename_i v' bb st0 hv;obtain ⟨l1,l2,l3,l4⟩:=UP hv;simp only [Ao,Ac] at he;obtain ⟨st1,h1,rfl,rfl⟩:=he;obtain ⟨_,_,_,e4⟩:=Ww h1;obtain ⟨rfl,hob0⟩:=e4 ho;have hv:=(l4 hob0).1;have hx:x∈(Op.load t x).operands :=(by simp [Op.operands]);have hl:Lc P mem t (ev x)=some (v',true):=by
       rw [hev x hx];have hag': ∀b ab,EY (.load t x) st.eval=some b->Yi st.mem b=some ab->Yi mem b=some ab:=fun b ab q1 q2=>hag t x b ab rfl (by grind [EY]) q2;unfold Lc at hv ⊢;split at hv
       .grind [EY]
       .rename_i y hy;unfold Lx at hv ⊢
        grind [EY]
      obtain ⟨z,hz,eH⟩:=y3w eD hl (hr x hx);simp_all [execOp]
     .cases he
    | call c=>
     obtain ⟨callee,args,argTypes⟩:=c;cases callee with
     | builtin b=>cases b <;> first | (simp [Vp] at he;done) | (simp [Xp] at hk;done)
     | value f=>simp [Xp] at hk
     | invoke r m=>simp [Vp] at he
    | _=>first | (simp [Vp] at he;done) | (simp [Xp] at hk;done)
  .cases h
theorem y6x {S:B6} {R:CF} {ops:Array Oper} {cx:CI} {x:Bool×Oper} {l:List (Bool×Oper)} {st:St}:W2 P S R ops cx (x::l) st=(HP P S R ops cx x st).bind (W2 P S R ops cx l):=by
 grind [W2,HP]
theorem N5.wp2 {o:Oper} {a:Act} {w:World} {K:B7->Value->World->Prop} {next:Act->World->Prop} {Q:Exit->Act->World->Prop} (h:N5 P o a w K)
  (hk: ∀ρ' u w',K ρ' u w'->((execOp a.eval o).run P w=.ok (.value u) w'\/ ∀u w',(execOp a.eval o).run P w≠ .ok (.value u) w')->next (a.put o.dst u) w'):o.wp P a w next Q:=by
 unfold Oper.wp;rcases h with ⟨ρ',u,w',e,k⟩ | ⟨ρ',w',e,k⟩ | ⟨f,args,e,hc⟩
 .have:=hk _ _ _ k (.inl e);rw [e];exact this
 .have:=hk _ _ _ k (.inr fun u w' e2=>by grind);rw [e];exact this
 .rw [e];exact hc.mono fun e' w' ⟨ρ',u,he,k⟩=>by
   grind
theorem w8g (m:CD) (sz:Nat) (zero:List B3) (ut:TypeDesc) (b o n:Nat) (c:Ec):WT m sz zero ut (.sl b o n c)=none:=by cases ut <;> rfl
theorem v8q {cx:CI} {st:St} {ts:List TypeId} {s:B3} {b o n:Nat} {c:Ec} {r:List B3}:HA P cx st ts (s::.sl b o n c::r)=none:=by
 unfold HA
 grind [w8g,unN]
theorem v0p {S:B6} {R:CF} {lift:Bool} {o:Oper} {cx:CI} {st st':St} (h:Ln P S R lift o cx st=some st') (hob:st'.ob=true) {b:Nat} (hk:EV o.op st.eval st.mem=some b) {a:Act} {w:World} (hr:Qv ρ st.eval a.eval o.op) (eD:B9 ρ st.mem st.next w):
  ∃u w',(execOp a.eval o).run P w=.ok (.value u) w'/\ ∀ab l,Yi st.mem b=some ab->ρ b=some l->Wt ρ w' ab l:=by
 obtain ⟨dst,op,type,pos,after,guard⟩:=o;simp only at hk hr;unfold EV at hk;split at hk
 .rename_i args argTypes;have eG:Vo (Zr ρ) (args.toList.map st.eval) (args.map a.eval).toList :=by rw [Bu];exact Vo.maps _ _ _ fun x hx=>hr x (by grind [Op.operands,Call.operands])
  have h:(match I4 P cx st argTypes.toList (args.toList.map st.eval) with
   | some (v,st2)=>st2.put cx dst v
   | none=>none)=some st':=h
  split at h
  .rename_i v st2 h2;have ho2:st2.ob=true:=by
    obtain ⟨_,_,p3,_⟩:=Vj h
    grind
   unfold I4 at h2;rcases Ua h2 with ⟨_,h2⟩ | ⟨hty,h2⟩
   .cases h2
   rw [Bool.not_eq_false'] at hty;split at hk
   .rename_i b' sz off len z b2 o2 n2 c2 r he;obtain rfl:=Ag hk;rw [he] at h2 eG;rcases Ua h2 with ⟨_,h2⟩ | ⟨_,h2⟩
    .rw [v8q] at h2;cases h2
    .obtain ⟨ρ',u,w',eH,_,hq⟩:=z7o (type:=type) eD h2 ho2 eG (by rw [he] at hty;exact hty);exact ⟨u,w',by simp_all [execOp,resolve,invoke,builtin],fun ab l k1 k2=>hq _ _ _ _ _ _ _ _ rfl k1 k2⟩
   .rename_i b' off len z b2 o2 n2 c2 r he;split at hk
    .rename_i blk hm;obtain ⟨hc,hk⟩:=Zd hk;obtain rfl:=Ag hk;simp only [Ad] at hc;rw [he] at h2 eG;rcases Ua h2 with ⟨_,h2⟩ | ⟨_,h2⟩
     .rw [v8q] at h2;cases h2
     .obtain ⟨ρ',u,w',eH,_,_,hq⟩:=UZ (type:=type) eD cx.floor h2 eG (by rw [he] at hty;exact hty);refine ⟨u,w',by simp_all [execOp,resolve,invoke,builtin],fun ab l k1 k2=> ?_⟩;rw [hm] at k1;obtain rfl:=Ag k1;exact hq.1 _ _ _ _ _ _ _ _ _ _ _ rfl (Aj hc.2) hm (Ah hc.1) k2
    .cases hk
   .cases hk
  .cases h
 .cases hk
structure j6h (S:B6) (P:Program) (ops:Array Oper) (cx:CI) (x:Bool×Oper) (st st':St):Prop where
 inv:Xm cx.floor st st'
 stay:(Xp x.2.op=.pure \/Xp x.2.op=.read)->st'.mem=st.mem/\st'.next=st.next
 lift:st'.ob=true->x.1=true->Xp x.2.op=.call -> ∀b,b<st.next->EU S x.2.op st.eval≠some b->Yi st'.mem b=Yi st.mem b
 foot:st'.ob=true->Xp x.2.op=.chain -> ∀b,b<st.next->Dt x.2.op st.eval≠some b->Yi st'.mem b=Yi st.mem b
 alloc:Xp x.2.op=.alloc ->x.2.guard=none-> ∃t z,x.2.op=.alloc t/\EO P t=some z/\st'.mem=(Cj st z t).mem /\st'.next=(Cj st z t).next /\ ∀d,x.2.dst=some d->st'.tmp d=.ptr st.next 0
 slot: ∀d,x.2.dst=some d->d<cx.n
 other:st'.ob=true-> ∀t,x.2.dst≠some t->st'.tmp t=st.tmp t
 does:st'.ob=true-> ∀(ρ:B7) (a:Act) (w:World) (ev:Operand->B3),a.tmps.size=cx.n->(∀y,y∈x.2.op.operands->ev y=st.eval y)->(∀d,Us ops x.2=some d->Zr ρ (st.tmp d) (a.tmps.getD d undef))->Qv ρ ev a.eval x.2.op->B9 ρ st.mem st.next w->
  ∀(K:Act->World->Prop) (Q:Exit->Act->World->Prop),(∀ρ' u w',(∀d,x.2.dst=some d->Zr ρ' (st'.tmp d) u)->B9 ρ' st'.mem st'.next w'->Ev ρ ρ' cx.floor st.mem st.next st'.mem st'.next w w'->(∀b ab l,EV x.2.op st.eval st.mem=some b->Yi st.mem b=some ab->ρ b=some l->Wt ρ w' ab l)->K (a.put x.2.dst u) w')->
   if Region.wanted x.2 (yielded ops a.tmps) then x.2.wp P a w K Q else K (a.put x.2.dst undef) w
 calm:st'.ob=true->(Xp x.2.op=.pure \/Xp x.2.op=.read)-> ∀(ρ:B7) (a:Act) (w:World) (ev:Operand->B3) (mem:CD) (next:Nat),a.tmps.size=cx.n->(∀y,y∈x.2.op.operands->ev y=st.eval y)->(∀d,Us ops x.2=some d->Zr ρ (st.tmp d) (a.tmps.getD d undef))->Qv ρ ev a.eval x.2.op->B9 ρ mem next w->
  (∀t y b ab,x.2.op=.load t y->EY x.2.op ev=some b->Yi st.mem b=some ab->Yi mem b=some ab)-> ∀(K:Act->World->Prop) (Q:Exit->Act->World->Prop),(∀u,(∀d,x.2.dst=some d->Zr ρ (st'.tmp d) u)->K (a.put x.2.dst u) w)->
   if Region.wanted x.2 (yielded ops a.tmps) then x.2.wp P a w K Q else K (a.put x.2.dst undef) w
theorem x0z {S:B6} {R:CF} (hN:EJ P) (hS:Zv P S) (hRI:Ef R) (hR:GX P R) {ops:Array Oper} {x:Bool×Oper} {cx:CI} {st st':St} (hcx:cx.floor<=st.next) (h:HP P S R ops cx x st=some st'):
  j6h S P ops cx x st st':=by
 unfold HP at h;split at h
 .cases h
 .rename_i st1 hw;obtain ⟨w1,w2,w3⟩:=Wf hw;obtain ⟨v,stm,hp,eI,fU,hstay,hlift,hfoot,halloc,hdo⟩:=w1v hN hS hRI hR (by grind) h;obtain ⟨p1,p2,p3,p4⟩:=Vj hp;have fO: ∀d,x.2.dst=some d->st'.tmp d=v:=fun d hd=>by
   rcases p4 with ⟨e,_⟩ | ⟨d',e,_,he⟩
   .grind
   .rw [hd] at e;obtain rfl:=Ag e;show T.get .undef st'.env d=v;rw [he,T.get_set,AG rfl]
  have hi1:Xm cx.floor st st1:=Xm.same w1 w2 fun ho=>(w3 ho).1;have hi2:Xm cx.floor stm st':=Xm.same p1 p2 fun ho=>by grind
  refine ⟨(hi1.trans fU).trans hi2,fun hk=> ?_,fun ho hl hk b hb hn=> ?_,fun ho hk b hb hn=> ?_,fun hk hg=> ?_,fun d hd=> ?_,fun ho t ht=> ?_,fun ho ρ a w ev hsz hev hgr hr eD K Q hK=> ?_,fun ho hk ρ a w ev mem next hsz hev hgr hr eD hag K Q hK=> ?_⟩
  .grind
  .have ho1:st1.ob=true:=fU.ob (by grind);have eQ:st1.eval=st.eval:=by
    funext y
    cases y with
    | tmp t=>exact (w3 ho1).2 t
    | _=>rfl
   grind
  .have ho1:st1.ob=true:=fU.ob (by grind);have eQ:st1.eval=st.eval:=by
    funext y
    cases y with
    | tmp t=>exact (w3 ho1).2 t
    | _=>rfl
   grind
  .grind [Qy,HG]
  .grind
  .have ho1:st1.ob=true:=fU.ob (by grind);rw [<-(w3 ho1).2 t];show T.get .undef st'.env t=T.get .undef st1.env t
   grind [T.get_set]
  .have ho1:st1.ob=true:=fU.ob (by grind);have eQ:=(w3 ho1).2;have fR: ∀y,st1.eval y=st.eval y:=fun y=>by cases y <;> first | rfl | exact eQ _
   rw [Ub hw ho1 hsz hgr,AG rfl];refine ((hdo ho).does ρ a w ev (fun y hy=>by grind) hr (by grind)).wp2 fun ρ' u w' hpost eH=> ?_;have he:=hpost.ev;rw [w1,w2] at he;refine hK ρ' u w' (fun d hd=>by rw [fO d hd];exact hpost.val) (by rw [p1,p2];exact hpost.rel) (by grind) fun b ab l k1 k2 k3=> ?_;have hr':Qv ρ st1.eval a.eval x.2.op:=fun y hy=>by rw [fR y,<-hev y hy];exact hr y hy
   have e1:st1.eval=st.eval:=funext fR
   grind [v0p]
  .have ho1:st1.ob=true:=fU.ob (by grind);have eQ:=(w3 ho1).2;have fR: ∀y,st1.eval y=st.eval y:=fun y=>by cases y <;> first | rfl | exact eQ _
   rw [Ub hw ho1 hsz hgr,AG rfl];obtain ⟨u,eH,hu⟩:=(hdo ho).calm hk ρ a w ev mem next (fun y hy=>by grind) hr eD (fun t y b ab q1 q2 q3=>hag t y b ab q1 q2 (by grind))
   unfold Oper.wp;rw [eH];exact hK u fun d hd=>by grind
 .rename_i st1 hw;obtain ⟨w1,w2,w3⟩:=Wf hw;obtain ⟨p1,p2,p3,p4⟩:=Vj h;have fO: ∀d,x.2.dst=some d->st'.tmp d=.tup []:=fun d hd=>by
   rcases p4 with ⟨e,_⟩ | ⟨d',e,_,he⟩
   .grind
   .rw [hd] at e;obtain rfl:=Ag e;show T.get .undef st'.env d=.tup [];rw [he,T.get_set,AG rfl]
  refine ⟨Xm.same (p1.trans w1) (p2.trans w2) fun ho=>(w3 (by grind)).1,fun _=>⟨p1.trans w1,p2.trans w2⟩,fun _ _ _ b _ _=>by rw [p1,w1],fun _ _ b _ _=>by rw [p1,w1],fun hk hg=> ?_,fun d hd=> ?_,fun ho t ht=> ?_,fun ho ρ a w ev hsz hev hgr hr eD K Q hK=> ?_,fun ho hk ρ a w ev mem next hsz hev hgr hr eD hag K Q hK=> ?_⟩
  .grind [Qy,HG]
  .grind
  .rw [<-(w3 (by grind)).2 t];show T.get .undef st'.env t=T.get .undef st1.env t
   grind [T.get_set]
  .have ho1:st1.ob=true:=by grind
   rw [Ub hw ho1 hsz hgr,Az (by simp)];refine hK ρ undef w (fun d hd=>by rw [fO d hd];exact .tup [] #[] rfl fun i h1 _=>by simp at h1) ?_ ?_ fun b ab l _ k2 k3=>eD.blk b l ab k3 k2
   .grind
   .rw [p1,p2,w1,w2];exact Ev.refl _ _ _ _ _ eD.dom
  .have ho1:st1.ob=true:=by grind
   rw [Ub hw ho1 hsz hgr,Az (by simp)];exact hK undef fun d hd=>by rw [fO d hd];exact .tup [] #[] rfl fun i h1 _=>by simp at h1
def IV (D:List Deferred) (ρ:B7) (cx:CI) (st st':St) (w:World):Exit->Act->World->Prop:=fun e a' w'=>
 e=.normal /\a'.defers=D/\ ∃ρ',Vk ρ' st'.env cx.n a'.tmps/\B9 ρ' st'.mem st'.next w'/\Ev ρ ρ' cx.floor st.mem st.next st'.mem st'.next w w'
def XR (ρ:B7) (k:Nat) (o:Obj):B7:=⟨ρ.f,fun j=>if j=k then some o else ρ.fz j,ρ.lp⟩
theorem x3f {k:Nat} {o:Obj} (h:ρ.fz k=none):ρ.le (XR ρ k o):=
 ⟨fun _ _ e=>e,fun j o' e=>by
  show (if j=k then some o else ρ.fz j)=some o'
  grind,fun _ _ e=>e⟩
theorem B9.froze {mem:CD} {next:Nat} {w:World} (h:B9 ρ mem next w) (vs:Array Value) (el:TypeId):
  B9 (XR ρ w.heap.size (.cells vs el)) mem next {w with heap:=w.heap.push (.cells vs el)}:=by
 have hle:=x3f (o:=.cells vs el) (h.hold w.heap.size (An _));have push: ∀k,k<w.heap.size->(w.heap.push (.cells vs el))[k]? =w.heap[k]? :=fun k hk=>by
  grind
 refine ⟨h.dom,h.inj,fun b l ab e hm=> ?_,fun k o e=> ?_,fun b l e hs=> ?_,fun b l e=> ?_,h.bd,h.ldom.1,h.ldom.2.mono hle.2.1⟩
 .exact (h.blk b l ab e hm).world hle (push _ (h.real b l e))
 .have e:(if k=w.heap.size then some (.cells vs el) else ρ.fz k)=some o:=e;show (w.heap.push (.cells vs el))[k]? =some o;by_cases hk:k=w.heap.size
  .grind
  .rw [Az hk] at e;have:=h.old k o e
   grind
 .have:=h.real b l e;show (if l.blk=w.heap.size then _ else ρ.fz l.blk)=none;rw [Az (by omega)];exact h.sep b l e hs
 .have:=h.real b l e
  grind
theorem Ev.froze {mem:CD} {next:Nat} {w:World} (h:B9 ρ mem next w) (floor:Nat) (m:CD) (vs:Array Value) (el:TypeId):
  Ev ρ (XR ρ w.heap.size (.cells vs el)) floor m next m next w {w with heap:=w.heap.push (.cells vs el)}:=by
 have hle:=x3f (o:=.cells vs el) (h.hold w.heap.size (An _));refine ⟨hle,fun _ _=>rfl,An _,fun _ _ _ _ _ q=>q,fun k o q _=> ?_,fun b l hb hl=> ?_,?_,rfl,rfl,rfl,fun k hk=> ?_⟩
 .grind
 .have:=h.dom b l hl;omega
 .grind
 .show (if k=w.heap.size then _ else ρ.fz k)=ρ.fz k
  grind
theorem w4p {w:World} {t:TypeId} {len:Nat} {ps:List (Nat×B3)} {qs:List (Nat×Value)} {v:B3} (hb:j6d P t len ps=some v) (hp:I3 ρ ps qs) (hf:ρ.fz w.heap.size=none):
  ∃u vs el,(Instr.buildSlice t len qs.toArray).run P w=.ok u {w with heap:=w.heap.push (.cells vs el)}/\Zr (XR ρ w.heap.size (.cells vs el)) v u:=by
 unfold j6d at hb;split at hb
 .rename_i e hu;split at hb
  .rename_i i zero hi hz;obtain ⟨hc,hb⟩:=Zd hb;simp only [Ad] at hc;obtain ⟨⟨hl1,hs1⟩,hle,hzl⟩:=hc;have hl1:=Aj hl1;have hs1:=Aj hs1;have hle:=Aj hle;have hzl:=Ah hzl;split at hb
   .rename_i cells eJ;obtain ⟨hc,hb⟩:=Zd hb;simp only [Ad] at hc;obtain ⟨hn,hpf⟩:=hc;have hn:=Ah hn;obtain rfl:=Ag hb;obtain ⟨_,z,_,_,hzr,hzv⟩:=Wi (ρ:=ρ) hz;have fL:=P3 hzr len (len*i.size) (by rw [hzl]);obtain ⟨arr,h1,h2⟩:=Qf eJ fL hp;have hsz:arr.size=len*i.size:=(by rw [<-h2.1,hn]);have hgt': ¬2 ^ 24<len*i.size:=(by omega);have fK:0<len*i.size:=Nat.mul_pos (by omega) (by omega);have h0: ¬len*i.size=0:=(by omega);refine ⟨.slice (some ⟨w.heap.size,0,none⟩) len len,arr,e,?_,?_⟩
    .have hsz0: ¬i.size=0:=(by omega);simp [Instr.buildSlice,run_underlying hu,Zn hi,h0,hsz0,hzv,h1,newRow,hgt']
    .have hin: ∀a b,a<len->b<i.size->a*i.size+b<cells.length:=fun a b ha hb=>by
      have:(a+1)*i.size<=len*i.size:=AE _ ha
      grind
     have eL: ∀a,a<len->((cells.drop (a*i.size)).take i.size).length =i.size:=fun a ha=>by
      have:(a+1)*i.size<=len*i.size:=AE _ ha
      grind
     refine .dat len _ w.heap.size 0 i.size len (fun a b=>arr.getD (a*i.size+b) undef) (An _) (fun a ha=>eL a ha) (fun a b ha hb=> ?_) (fun a b ha hb=> ?_)
     .have hb':b<i.size:=(by grind);have h3:=hin a b ha hb';have e1:((cells.drop (a*i.size)).take i.size)[b]=cells[a*i.size+b]:=by
       grind
      rw [e1];have h4:a*i.size+b<arr.size:=(by grind);have e2:arr.getD (a*i.size+b) undef=arr[a*i.size+b]:=(by simp [h4]);rw [e2];have h5:=Kz 6 _ _ (Ax.1 hpf _ (A3 h3)) (h2.2 _ h3 h4);exact h5.mono (x3f (o:=.cells arr e) hf).bare
     .have h3:=hin a b ha hb;have h4:a*i.size+b<arr.size:=(by grind);refine ⟨arr,e,(0,0),?_,?_⟩
      .show (if w.heap.size=w.heap.size then some (Obj.cells arr e) else _)=_
       grind
      .simp [h4]
   .cases hb
  .cases hb
 .cases hb
structure W6 (S:B6) (z:Nat) (P:Program) (ops:Array Oper) (cx:CI) (x:Bool×Oper) (st st':St):Prop where
 inv:Xm cx.floor st st'
 stay:(Xg z x.2.op=.pure \/Xg z x.2.op=.read \/Xg z x.2.op=.lit)->st'.mem=st.mem/\st'.next=st.next
 lift:st'.ob=true->x.1=true->Xg z x.2.op=.call -> ∀b,b<st.next->EU S x.2.op st.eval≠some b->Yi st'.mem b=Yi st.mem b
 foot:st'.ob=true->Xg z x.2.op=.chain -> ∀b,b<st.next->Dt x.2.op st.eval≠some b->Yi st'.mem b=Yi st.mem b
 fresh:st'.ob=true->(Xg z x.2.op=.alloc \/Xg z x.2.op=.birth)->x.2.guard=none-> ∃cells ty,st'.mem=Wx st.mem st.next (some ⟨cells,ty,none⟩)/\st'.next=st.next+1/\
  ∀(ρ:B7) (a:Act) (w:World) (ev:Operand->B3),(∀y,y∈x.2.op.operands->ev y=st.eval y)->Qv ρ ev a.eval x.2.op->
   ∃u vs el,el=ty/\Uj ρ cells vs/\(execOp a.eval x.2).run P w=.ok (.value u) {w with heap:=w.heap.push (.cells vs el)}/\ ∀ρ':B7,ρ' st.next=some ⟨w.heap.size,0,cells.length,vs.size⟩-> ∀d,x.2.dst=some d->Zr ρ' (st'.tmp d) u
 slot: ∀d,x.2.dst=some d->d<cx.n
 other:st'.ob=true-> ∀t,x.2.dst≠some t->st'.tmp t=st.tmp t
 does:st'.ob=true->(Xg z x.2.op=.chain \/Xg z x.2.op=.call)-> ∀(ρ:B7) (a:Act) (w:World) (ev:Operand->B3),a.tmps.size=cx.n->(∀y,y∈x.2.op.operands->ev y=st.eval y)->(∀d,Us ops x.2=some d->Zr ρ (st.tmp d) (a.tmps.getD d undef))->Qv ρ ev a.eval x.2.op->B9 ρ st.mem st.next w->
  ∀(K:Act->World->Prop) (Q:Exit->Act->World->Prop),(∀ρ' u w',(∀d,x.2.dst=some d->Zr ρ' (st'.tmp d) u)->B9 ρ' st'.mem st'.next w'->Ev ρ ρ' cx.floor st.mem st.next st'.mem st'.next w w'->(∀b ab l,EV x.2.op st.eval st.mem=some b->Yi st.mem b=some ab->ρ b=some l->Wt ρ w' ab l)->K (a.put x.2.dst u) w')->
   if Region.wanted x.2 (yielded ops a.tmps) then x.2.wp P a w K Q else K (a.put x.2.dst undef) w
 calm:st'.ob=true->(Xg z x.2.op=.pure \/Xg z x.2.op=.read)-> ∀(ρ:B7) (a:Act) (w:World) (ev:Operand->B3) (mem:CD) (next:Nat),a.tmps.size=cx.n->(∀y,y∈x.2.op.operands->ev y=st.eval y)->(∀d,Us ops x.2=some d->Zr ρ (st.tmp d) (a.tmps.getD d undef))->Qv ρ ev a.eval x.2.op->B9 ρ mem next w->
  (∀t y b ab,x.2.op=.load t y->EY x.2.op ev=some b->Yi st.mem b=some ab->Yi mem b=some ab)-> ∀(K:Act->World->Prop) (Q:Exit->Act->World->Prop),(∀u,(∀d,x.2.dst=some d->Zr ρ (st'.tmp d) u)->K (a.put x.2.dst u) w)->
   if Region.wanted x.2 (yielded ops a.tmps) then x.2.wp P a w K Q else K (a.put x.2.dst undef) w
 lit:st'.ob=true->Xg z x.2.op=.lit -> ∀(ρ:B7) (a:Act) (w:World) (ev:Operand->B3) (mem:CD) (next:Nat),a.tmps.size=cx.n->(∀y,y∈x.2.op.operands->ev y=st.eval y)->(∀d,Us ops x.2=some d->Zr ρ (st.tmp d) (a.tmps.getD d undef))->Qv ρ ev a.eval x.2.op->B9 ρ mem next w->
  ∀(K:Act->World->Prop) (Q:Exit->Act->World->Prop),(∀ρ' u w',(∀d,x.2.dst=some d->Zr ρ' (st'.tmp d) u)->B9 ρ' mem next w'->(∀b,ρ' b=ρ b)->(∀floor m,Ev ρ ρ' floor m next m next w w')->K (a.put x.2.dst u) w')->
   if Region.wanted x.2 (yielded ops a.tmps) then x.2.wp P a w K Q else K (a.put x.2.dst undef) w
theorem v6u {z:Nat} {op:Op} (h:Lz z op=false) (h2:isBirth z op=false):Xg z op=Xp op:=by unfold Xg;grind
theorem v8r {o:Oper} {t:TypeId} {z:List B3} (ho:o.op=.alloc t) (hz:EO P t=some z) (a:Act) (w:World):
  ∃vs:Array Value,Uj ρ z vs/\(execOp a.eval o).run P w=.ok (.value (.pointer (some ⟨w.heap.size,0,none⟩))) {w with heap:=w.heap.push (.cells vs t)}:=by
 obtain ⟨dst,op,type,pos,after,guard⟩:=o;simp only at ho;subst ho;obtain ⟨_,zv,_,_,hzr,hzv⟩:=Wi (ρ:=ρ) hz;exact ⟨zv.cells,hzr,by simp_all [execOp,Instr.alloc,newVar,newRow]⟩
theorem x5d {w:World} {t:TypeId} {len:Nat} {ps:List (Nat×B3)} {qs:List (Nat×Value)} {cells:List B3} {e:TypeId} {sz:Nat} (hb:w4v P t len ps=some (cells,e,sz)) (hp:I3 ρ ps qs):
  ∃vs el,el=e/\Uj ρ cells vs/\(Instr.buildSlice t len qs.toArray).run P w=.ok (.slice (some ⟨w.heap.size,0,none⟩) len len) {w with heap:=w.heap.push (.cells vs el)}/\cells.length=len*sz/\vs.size=len*sz:=by
 unfold w4v at hb;split at hb
 .rename_i e hu;split at hb
  .rename_i i zero hi hz;obtain ⟨hc,hb⟩:=Zd hb;simp only [Ad] at hc;obtain ⟨⟨hl1,hs1⟩,hle,hzl⟩:=hc;have hl1:=Aj hl1;have hs1:=Aj hs1;have hle:=Aj hle;have hzl:=Ah hzl;split at hb
   .rename_i cells eJ;obtain ⟨hn,hb⟩:=Zd hb;have hn:=Ah hn;simp only [Ae,Ac] at hb;obtain ⟨rfl,rfl,rfl⟩:=hb;obtain ⟨_,z,_,_,hzr,hzv⟩:=Wi (ρ:=ρ) hz;have fL:=P3 hzr len (len*i.size) (by rw [hzl]);obtain ⟨arr,h1,h2⟩:=Qf eJ fL hp;have hsz:arr.size=len*i.size:=(by rw [<-h2.1,hn]);have hgt': ¬2 ^ 24<len*i.size:=(by omega);have fK:0<len*i.size:=Nat.mul_pos (by omega) (by omega);have h0: ¬len*i.size=0:=(by omega);have hsz0: ¬i.size=0:=(by omega);exact ⟨arr,e,rfl,h2,by simp [Instr.buildSlice,run_underlying hu,Zn hi,h0,hsz0,hzv,h1,newRow,hgt'],hn,hsz⟩
   .cases hb
  .cases hb
 .cases hb
theorem x1p (op:Op):Xp op≠ .lit :=by
 cases op with
 | call c=>
  obtain ⟨callee,args,argTypes⟩:=c;cases callee with
  | builtin b=>cases b <;> exact fun h=>by cases h
  | value f=>exact fun h=>by cases h
  | invoke r m=>exact fun h=>by cases h
 | _=>exact fun h=>by cases h
theorem y3s (op:Op):Xp op≠ .birth :=by
 cases op with
 | call c=>
  obtain ⟨callee,args,argTypes⟩:=c;cases callee with
  | builtin b=>cases b <;> exact fun h=>by cases h
  | value f=>exact fun h=>by cases h
  | invoke r m=>exact fun h=>by cases h
 | _=>exact fun h=>by cases h
theorem w8d {S:B6} {R:CF} (hN:EJ P) (hS:Zv P S) (hRI:Ef R) (hR:GX P R) {z:Nat} {ops:Array Oper} {x:Bool×Oper} {cx:CI} {st st':St} (hcx:cx.floor<=st.next) (h:Lv z P S R ops cx x st=some st'):
  W6 S z P ops cx x st st':=by
 unfold Lv at h;cases hz:Lz z x.2.op with
 | false=>
  rw [hz,Ab] at h;cases hz2:isBirth z x.2.op with
  | false=>
   rw [hz2,Ab] at h;have s:=x0z hN hS hRI hR hcx h;have hk:=v6u hz hz2;refine ⟨s.inv,fun k=> ?_,?_,?_,?_,s.slot,s.other,fun ho _=>s.does ho,fun ho k=>s.calm ho (by grind),fun _ k=> ?_⟩
   .rw [hk] at k;rcases k with k | k | k
    .exact s.stay (.inl k)
    .exact s.stay (.inr k)
    .exact absurd k (x1p _)
   .rw [hk];exact s.lift
   .rw [hk];exact s.foot
   .intro _ k hg;have k:Xp x.2.op=.alloc :=by
     grind [y3s]
    obtain ⟨t,z0,e1,e2,e3,e4,e5⟩:=s.alloc k hg;refine ⟨z0,t,e3,e4,fun ρ a w ev _ _=> ?_⟩;obtain ⟨vs,hvs,eH⟩:=v8r (P:=P) (ρ:=ρ) e1 e2 a w;exact ⟨_,vs,t,rfl,hvs,eH,fun ρ' hρ d hd=>by rw [e5 d hd];exact .ptr _ 0 _ hρ⟩
   grind [x1p]
  | true=>
   rw [hz2,Af] at h;have hk:Xg z x.2.op=.birth :=by unfold Xg;grind
   obtain ⟨lf,o⟩:=x;obtain ⟨dst,op,type,pos,after,guard⟩:=o;simp only at h hz hz2 hk ⊢;cases op with
   | buildSlice t len parts=>
    split at h
    .cases h
    .rename_i st1 hw;obtain ⟨w1,w2,w3⟩:=Wf hw;unfold YS at h;simp only at h;split at h
     .rename_i cells e sz hv;obtain ⟨p1,p2,p3,p4⟩:=Vj h;have fO: ∀d,dst=some d->st'.tmp d=.sl st1.next 0 len (bif cx.sym then .un sz else .ex len):=fun d hd=>by
       rcases p4 with ⟨e,_⟩ | ⟨d',e,_,he⟩
       .grind
       .rw [hd] at e;obtain rfl:=Ag e;show T.get .undef st'.env d=_;rw [he,T.get_set,AG rfl]
      have hi1:Xm cx.floor st st1:=Xm.same w1 w2 fun ho=>(w3 ho).1;have hi2:Xm cx.floor (Cj st1 cells e) st':=Xm.same p1 p2 fun ho=>by grind
      obtain ⟨env1,FQ,next1,orc1,ob1⟩:=st1;simp only [Cj] at p1 p2 p3 p4;simp only at w1 w2 fO;refine ⟨(hi1.trans (Xm.new _ _ _)).trans hi2,(fun k=>by grind),(fun _ _ k=>by grind),(fun _ k=>by grind),fun ho _ _=> ?_,fun d hd=> ?_,fun ho t ht=> ?_,(fun _ k=>by grind),(fun _ k=>by grind),(fun _ k=>by grind)⟩
      .have ho1:ob1=true:=(by grind);have eQ:=(w3 ho1).2;refine ⟨cells,e,by grind,by rw [p2,w2],fun ρ a w ev hev hr=> ?_⟩;have fR: ∀y,St.eval ⟨env1,FQ,next1,orc1,ob1⟩ y=st.eval y:=fun y=>by cases y <;> first | rfl | exact eQ _
       have hpr:I3 ρ (parts.toList.map fun p=>(p.1,St.eval ⟨env1,FQ,next1,orc1,ob1⟩ p.2)) (parts.toList.map fun p=>(p.1,a.eval p.2)):=UT parts.toList fun p hp=>by have hm:p.2∈(Op.buildSlice t len parts).operands :=(by grind [Op.operands]);rw [fR p.2,<-hev p.2 hm];exact hr p.2 hm
       obtain ⟨vs,el,hel,hvs,eH,hn1,hn2⟩:=x5d (w:=w) hv hpr;have hpa:(parts.map fun (i,x)=>(i,a.eval x))=(parts.toList.map fun p=>(p.1,a.eval p.2)).toArray :=by
        grind
       refine ⟨.slice (some ⟨w.heap.size,0,none⟩) len len,vs,el,hel,hvs,by simp [execOp,hpa,eH],fun ρ' hρ d hd=> ?_⟩;rw [fO d hd,w2];refine .sl _ 0 len _ ⟨w.heap.size,0,cells.length,vs.size⟩ len hρ ?_ (An _);cases cx.sym with
       | true=>exact ⟨by grind,by grind⟩
       | false=>exact rfl
      .grind
      .have ho1:ob1=true:=(by grind);rw [<-(w3 ho1).2 t];show T.get .undef st'.env t=T.get .undef env1 t
       grind [T.get_set]
     .cases h
    .rename_i st1 hw;obtain ⟨w1,w2,w3⟩:=Wf hw;obtain ⟨p1,p2,p3,p4⟩:=Vj h;have hi1:Xm cx.floor st st1:=Xm.same w1 w2 fun ho=>(w3 ho).1;have hi2:Xm cx.floor st1 st':=Xm.same p1 p2 fun ho=>by grind
     refine ⟨hi1.trans hi2,(fun k=>by grind),(fun _ _ k=>by grind),(fun _ k=>by grind),fun _ _ hg=> ?_,fun d hd=> ?_,fun ho t ht=> ?_,(fun _ k=>by grind),(fun _ k=>by grind),(fun _ k=>by grind)⟩
     .grind [Qy,HG]
     .grind
     .have ho1:st1.ob=true:=(by grind);rw [<-(w3 ho1).2 t];show T.get .undef st'.env t=T.get .undef st1.env t
      grind [T.get_set]
   | _=>cases hz2
 | true=>
  rw [hz,Af] at h;have hk:Xg z x.2.op=.lit :=by unfold Xg;rw [hz];rfl
  obtain ⟨lf,o⟩:=x;obtain ⟨dst,op,type,pos,after,guard⟩:=o;simp only at h hz hk ⊢;cases op with
  | buildSlice t len parts=>
   split at h
   .cases h
   .rename_i st1 hw;obtain ⟨w1,w2,w3⟩:=Wf hw;unfold w2c at h;simp only at h;split at h
    .rename_i v hv;obtain ⟨p1,p2,p3,p4⟩:=Vj h;have fO: ∀d,dst=some d->st'.tmp d=v:=fun d hd=>by
      rcases p4 with ⟨e,_⟩ | ⟨d',e,_,he⟩
      .grind
      .rw [hd] at e;obtain rfl:=Ag e;show T.get .undef st'.env d=v;rw [he,T.get_set,AG rfl]
     have hi1:Xm cx.floor st st1:=Xm.same w1 w2 fun ho=>(w3 ho).1;have hi2:Xm cx.floor st1 st':=Xm.same p1 p2 fun ho=>by grind
     refine ⟨hi1.trans hi2,fun _=>⟨p1.trans w1,p2.trans w2⟩,(fun _ _ k=>by grind),(fun _ k=>by grind),(fun _ k=>by grind),fun d hd=> ?_,fun ho t ht=> ?_,(fun _ k=>by grind),(fun _ k=>by grind),fun ho _ ρ a w ev mem next hsz hev hgr hr eD K Q hK=> ?_⟩
     .grind
     .have ho1:st1.ob=true:=(by grind);rw [<-(w3 ho1).2 t];show T.get .undef st'.env t=T.get .undef st1.env t
      grind [T.get_set]
     .have ho1:st1.ob=true:=(by grind);have eQ:=(w3 ho1).2;have fR: ∀y,st1.eval y=st.eval y:=fun y=>by cases y <;> first | rfl | exact eQ _
      rw [Ub hw ho1 hsz hgr,AG rfl];have hpr:I3 ρ (parts.toList.map fun p=>(p.1,st1.eval p.2)) (parts.toList.map fun p=>(p.1,a.eval p.2)):=UT parts.toList fun p hp=>by have hm:p.2∈(Op.buildSlice t len parts).operands :=(by grind [Op.operands]);rw [fR p.2,<-hev p.2 hm];exact hr p.2 hm
      obtain ⟨u,vs,el,eH,hu⟩:=w4p hv hpr (eD.hold w.heap.size (An _));have:(parts.map fun (i,x)=>(i,a.eval x))=(parts.toList.map fun p=>(p.1,a.eval p.2)).toArray :=by
       grind
      unfold Oper.wp;have hrun':(execOp a.eval ⟨dst,.buildSlice t len parts,type,pos,after,guard⟩).run P w=.ok (.value u) {w with heap:=w.heap.push (.cells vs el)}:=by simp [execOp,this,eH]
      rw [hrun'];exact hK _ u _ (fun d hd=>by grind) (eD.froze vs el) (fun _=>rfl) fun floor m=>Ev.froze eD floor m vs el
    .cases h
   .rename_i st1 hw;obtain ⟨w1,w2,w3⟩:=Wf hw;obtain ⟨p1,p2,p3,p4⟩:=Vj h;have fO: ∀d,dst=some d->st'.tmp d=.tup []:=fun d hd=>by
     rcases p4 with ⟨e,_⟩ | ⟨d',e,_,he⟩
     .grind
     .rw [hd] at e;obtain rfl:=Ag e;show T.get .undef st'.env d=_;rw [he,T.get_set,AG rfl]
    have hi1:Xm cx.floor st st1:=Xm.same w1 w2 fun ho=>(w3 ho).1;have hi2:Xm cx.floor st1 st':=Xm.same p1 p2 fun ho=>by grind
    refine ⟨hi1.trans hi2,fun _=>⟨p1.trans w1,p2.trans w2⟩,(fun _ _ k=>by grind),(fun _ k=>by grind),(fun _ k=>by grind),fun d hd=> ?_,fun ho t ht=> ?_,(fun _ k=>by grind),(fun _ k=>by grind),fun ho _ ρ a w ev mem next hsz hev hgr hr eD K Q hK=> ?_⟩
    .grind
    .have ho1:st1.ob=true:=(by grind);rw [<-(w3 ho1).2 t];show T.get .undef st'.env t=T.get .undef st1.env t
     grind [T.get_set]
    .have ho1:st1.ob=true:=(by grind);rw [Ub hw ho1 hsz hgr,Az Bool.false_ne_true];exact hK ρ undef w (fun d hd=>by rw [fO d hd];exact .tup [] #[] rfl fun i h1 _=>by simp at h1) eD (fun _=>rfl) fun floor m=>Ev.refl _ _ _ _ _ eD.dom
  | _=>cases hz
end
section
variable {ops:Array Oper}
def HD (ops:Array Oper) (S:Nat->Bool):Prop:= ∀j o,ops[j]? =some o->S j=true-> ∀e∈o.after.toList,Region.binds .any e=true->S e.on=true
def HK (S:Nat->Bool) (o:Oper):Prop:= ∀e∈o.after.toList,Region.binds .any e=true->S e.on=true
def Id (ops:Array Oper) (i:Nat) (o:Oper):Prop:= ∀S,HD ops S->HK S o->S i=true
theorem x8d (acc:List Nat) (i:Nat): ∀(es:List Edge) (s:Nat),(es.foldl (fun s e=>bif Region.binds .any e then s||| (2 ^ e.on)||| acc.getD e.on 0 else s) s).testBit i=true->
  s.testBit i=true\/ ∃e∈es,Region.binds .any e=true/\(e.on=i\/(acc.getD e.on 0).testBit i=true)
 | [],s,h=>.inl h
 | e::es,s,h=>by
  simp only [List.foldl_cons] at h;rcases x8d acc i es _ h with h | ⟨e',he',h1,h2⟩;all_goals grind
theorem x8n (fV: ∀(j:Nat) o,ops[j]? =some o-> ∀e∈o.after.toList,Region.binds .any e=true->e.on<j): ∀(l:List Oper) (acc:List Nat),acc.length+l.length=ops.size->(∀k,l[k]? =ops[acc.length+k]?)->
  (∀k o,k<acc.length->ops[k]? =some o-> ∀i,(acc.getD k 0).testBit i=true->i<k/\Id ops i o)->
  ∀k o,ops[k]? =some o-> ∀i,((FE l acc).getD k 0).testBit i=true->i<k/\Id ops i o
 | [],acc,eE,_,hacc,k,o,ho,i,h=>by have hk:k<ops.size:=(AB.1 ho).1;simp at eE;exact hacc k o (by omega) ho i h
 | x::l,acc,eE,hl,hacc,k,o,ho,i,h=>by
  unfold FE at h;refine x8n fV l (acc++[x.after.toList.foldl (fun s e=>bif Region.binds .any e then s||| (2 ^ e.on)||| acc.getD e.on 0 else s) 0]) (by grind) (fun k=>by
   have:=hl (k+1)
   simpa [AO,Nat.add_comm 1 k] using this) (fun k' o' hk' ho' i' hi'=> ?_) k o ho i h
  by_cases hlt:k'<acc.length
  .refine hacc k' o' hlt ho' i' ?_
   grind
  .have hk2:k'=acc.length:=by grind
   subst hk2;have hx:ops[acc.length]? =some x:=by simpa using (hl 0).symm
   rw [hx] at ho';obtain rfl:=Ag ho';have hg:(acc++[x.after.toList.foldl (fun s e=>bif Region.binds .any e then s||| (2 ^ e.on)||| acc.getD e.on 0 else s) 0]).getD acc.length 0=x.after.toList.foldl (fun s e=>bif Region.binds .any e then s||| (2 ^ e.on)||| acc.getD e.on 0 else s) 0:=by
    grind
   rw [hg] at hi';rcases x8d acc i' _ _ hi' with h0 | ⟨e,he,hb,h1⟩
   .simp at h0
   .have hlt':=fV _ _ hx e he hb;rcases h1 with rfl | h1
    .exact ⟨hlt',fun S _ hr=>hr e he hb⟩
    .have ho2:ops[e.on]? =some (ops[e.on]'(by grind)):=(by simp);obtain ⟨q1,q2⟩:=hacc e.on _ hlt' ho2 i' h1;exact ⟨by omega,fun S hc hr=>q2 S hc fun e' he' hb'=>hc e.on _ ho2 (hr e he hb) e' he' hb'⟩
theorem x4b {z:Nat} {op:Op} {k:F1} (hk:k≠ .lit) (hb:k≠ .birth):Xg z op=k↔Xp op=k/\Lz z op=false/\isBirth z op=false:=by
 grind [Xg]
theorem w2s {z:Nat} {op:Op} (h:Lz z op=true):Xp op=.chain :=by
 cases op <;> first | rfl | (cases h;done)
theorem x4d {z:Nat} {op:Op} (h:isBirth z op=true):Xp op=.chain :=by
 cases op <;> first | rfl | (cases h;done)
theorem x7q {z:Nat} {op:Op} {k:F1} (hk:k≠ .lit) (hb:k≠ .birth) (hc:k≠ .chain):Xg z op=k↔Xp op=k:=by
 rw [x4b hk hb]
 grind [w2s,x4d]
theorem US {z:Nat} {op:Op}:Xg z op=.alloc ↔Xp op=.alloc :=x7q (fun h=>by cases h) (fun h=>by cases h) fun h=>by cases h
theorem x1o {z:Nat} {op:Op}:Xg z op=.read ↔Xp op=.read :=x7q (fun h=>by cases h) (fun h=>by cases h) fun h=>by cases h
theorem y7q {z:Nat} {op:Op} (h:Xg z op=.birth):isBirth z op=true:=by
 grind [Xg,y3s]
structure v9c (z:Nat) (ops:Array Oper):Prop where
 ord: ∀(j:Nat) o,ops[j]? =some o-> ∀e∈o.after.toList,Region.binds .any e=true->e.on<j
 guard: ∀(j:Nat) o,ops[j]? =some o->(Xg z o.op=.alloc \/Xg z o.op=.birth)->o.guard=none
 bits: ∀(j:Nat) o,ops[j]? =some o-> ∀i,((FE ops.toList []).getD j 0).testBit i=true->i<j/\Id ops i o
 pair: ∀(i j:Nat) p o,i<j->ops[i]? =some p->ops[j]? =some o->Id ops i o\/(p.apart ops o=true/\w2k (Xg z p.op) (Xg z o.op)=true/\(Xg z o.op=.read ->Dw ops i=true)/\(Xg z p.op=.read ->Dw ops j=true))
 dst: ∀(i j:Nat) p o d,i<j->ops[i]? =some p->ops[j]? =some o->p.dst=some d->o.dst≠some d
 alloc: ∀(i j:Nat) p o,i<j->ops[i]? =some p->ops[j]? =some o->Xg z o.op=.alloc ->p.apart ops o=true
 birth: ∀(i j:Nat) p o,i<j->ops[i]? =some p->ops[j]? =some o->Xg z o.op=.birth -> ¬(Xg z p.op=.chain \/Xg z p.op=.call)
theorem X3 {z:Nat} (h:Lj z ops=true):v9c z ops:=by
 have hj: ∀(j:Nat) o,ops[j]? =some o->(o.after.toList.all (fun e=> !Region.binds .any e||Nat.ble (e.on+1) j)=true/\(!(Xp o.op == .alloc ||isBirth z o.op)||o.guard.isNone)=true)/\ ∀(i:Nat) p,i<j->ops[i]? =some p->W3 z ops i j p o=true:=by
  intro j o ho;have hlt:j<ops.size:=(AB.1 ho).1;have:=Ax.1 h j (A2.2 hlt)
  grind
 have ord: ∀(j:Nat) o,ops[j]? =some o-> ∀e∈o.after.toList,Region.binds .any e=true->e.on<j:=by intro j o ho e he hb;have:=Ax.1 (hj j o ho).1.1 e he;rw [hb] at this;exact Aj (by grind)
 have bits:=x8n ord ops.toList [] (by simp) (fun k=>by simp) (fun k o hk=>by simp at hk);refine ⟨ord,fun j o ho hk=> ?_,fun j o ho i hb=>bits j o ho i hb,fun i j p o hij hp ho=> ?_,fun i j p o d hij hp ho hd=> ?_,fun i j p o hij hp ho hk=> ?_,fun i j p o hij hp ho hk hc=> ?_⟩
 .have:=(hj j o ho).1.2;rcases hk with hk | hk;all_goals simp_all [US,y7q]
 .have hpo:=(hj j o ho).2 i p hij hp;unfold W3 at hpo;simp only [Ad,Bz] at hpo;cases hb:((FE ops.toList []).getD j 0).testBit i with
  | true=>grind
  | false=>
   right;rcases hpo.1.1.1 with h1 | ⟨h1,h2⟩
   .grind
   .have hi:i<ops.size:=(AB.1 hp).1;have hjl:j<ops.size:=(AB.1 ho).1;refine ⟨h1,h2,fun hr=> ?_,fun hr=> ?_⟩
    .unfold Dw;rw [B0];refine ⟨j,A2.2 hjl,?_⟩;rw [ho,Option.any_some,x1o.1 hr,hb];have:Nat.ble (i+1) j=true:=A0 hij
     grind
    .unfold Dw;rw [B0];refine ⟨i,A2.2 hi,?_⟩;rw [hp,Option.any_some,x1o.1 hr,hb];have:Nat.ble (i+1) j=true:=A0 hij
     grind
 all_goals grind [W3,US,y7q]
theorem Jg {z:Nat} {i:Nat} {o:Oper} (ho:ops[i]? =some o):isAlloc ops i=true↔Xg z o.op=.alloc :=by
 grind [US,isAlloc]
theorem y0w (i:Nat):i∈Yp ops↔i<ops.size:=by
 grind [Yp]
theorem Xd :(Yp ops).length =ops.size:=by
 unfold Yp;rw [Ap,<-List.countP_eq_length_filter,<-List.countP_eq_length_filter];have:=List.length_eq_countP_add_countP (isAlloc ops) (l:=List.range ops.size)
 grind
def Ord (ops:Array Oper) (i j:Nat):Prop:=(isAlloc ops i=true/\isAlloc ops j=false)\/(isAlloc ops i=isAlloc ops j/\i<j)
theorem y0v :(Yp ops).Pairwise (Ord ops):=by
 unfold Yp;rw [List.pairwise_append];have hr:(List.range ops.size).Pairwise (· < ·):=List.pairwise_lt_range;refine ⟨?_,?_,?_⟩
 .refine ((hr.filter _).imp_of_mem fun {a b} ha hb h=> ?_);have h1:=(BB.1 ha).2;have h2:=(BB.1 hb).2;exact .inr ⟨h1.trans h2.symm,h⟩
 .refine ((hr.filter _).imp_of_mem fun {a b} ha hb h=> ?_);have h1:=(BB.1 ha).2;have h2:=(BB.1 hb).2;refine .inr ⟨?_,h⟩
  grind
 .intro a ha b hb;have h1:=(BB.1 ha).2;have h2:=(BB.1 hb).2;exact .inl ⟨h1,by grind⟩
theorem x4m {k1 k2:Nat} (h:k1<k2) (h2:k2<(Yp ops).length):Ord ops ((Yp ops)[k1]'(by omega)) (Yp ops)[k2]:=
 BO.1 y0v k1 k2 (by omega) h2 h
end
def R5 (ops:Array Oper) (x y:D0):Prop:=clash x.2.1 y.2.2=true\/clash x.2.2 y.2.1=true->ordered ops x.1 y.1=true
theorem w3g {ops:Array Oper} {x y:D0} (h:WW ops x y=true):R5 ops x y:=by
 intro hc
 grind [WW]
theorem YG {z:Nat} {P:Program} {S:B6} {R:CF} {ops:Array Oper} {cx:CI}: ∀(l:List (Nat×Bool×Oper)) (acc:List D0) (st st':St),P0 z P S R ops cx l acc st=some st'->
  ∃f:Nat->St,f 0=st/\f l.length=st'/\(∀(k:Nat) (h:k<l.length),Lv z P S R ops cx l[k].2 (f k)=some (f (k+1)))/\
   (∀(k:Nat) (h:k<l.length),∀y∈acc,R5 ops (Fp S l[k] (f k).eval) y\/lateF z ops l[k] (f k).eval (f k).mem y=true)/\
   ∀(q k:Nat) (hq:q<k) (h:k<l.length),R5 ops (Fp S l[k] (f k).eval) (Fp S (l[q]'(by omega)) (f q).eval)\/lateF z ops l[k] (f k).eval (f k).mem (Fp S (l[q]'(by omega)) (f q).eval)=true
 | [],acc,st,st',h=>by have h:some st=some st':=h;obtain rfl:=Ag h;exact ⟨fun _=>st,rfl,rfl,fun k h=>by simp at h,fun k h=>by simp at h,fun q k _ h=>by simp at h⟩
 | x::l,acc,st,st',h=>by
  have h:(bif acc.all (fun y=>WW ops (Fp S x st.eval) y||lateF z ops x st.eval st.mem y) then
    match Lv z P S R ops cx x.2 st with
    | some st'=>P0 z P S R ops cx l (Fp S x st.eval::acc) st'
    | none=>none
   else none)=some st':=h
  obtain ⟨hacc,h⟩:=Zd h;split at h
  .rename_i st1 h1;obtain ⟨f,f0,fn,fs,fa,fp⟩:=YG l _ st1 st' h;refine ⟨fun k=>match k with | 0=>st | k+1=>f k,rfl,fn,fun k hk=> ?_,fun k hk y hy=> ?_,fun q k hqk hk=> ?_⟩;all_goals grind [w3g]
  .cases h
theorem x5n {S:B6} {op:Op} (h:Xp op=.chain) (ev:Operand->B3):EU S op ev=Dt op ev:=by
 cases op with
 | call c=>
  obtain ⟨callee,args,argTypes⟩:=c;cases callee with
  | value f=>cases h
  | _=>rfl
 | _=>rfl
theorem YF (p q:Nat->Bool) (i:Nat): ∀(n:Nat),(∀k,k≠i->q k=p k)->p i=true->q i=false->i<n->(List.range n).countP q+1=(List.range n).countP p
 | 0,_,_,_,h=>absurd h (AC _)
 | n+1,hpq,hp,hq,h=>by
  rw [List.range_succ,List.countP_append,List.countP_append];by_cases hi:i<n
  .have:=YF p q i n hpq hp hq hi
   grind
  .have hin:i=n:=by omega
   subst hin;have e:(List.range i).countP q=(List.range i).countP p:=List.countP_congr fun k hk=>by
    grind
   grind
section
variable {P:Program}
theorem B9.unborn {ρ:B7} {mem:CD} {next:Nat} {w:World} (h:B9 ρ mem next w) (o:Option B8):B9 ρ (Wx mem next o) (next+1) w:=by
 have ne: ∀b l,ρ b=some l->b≠next:=fun b l e=>by have:=h.dom b l e;omega
 refine ⟨fun b l e=>by have:=h.dom b l e;omega,fun b b' l l' e e' he hs hs'=> ?_,fun b l ab e hm=> ?_,h.old,fun b l e hs=>h.sep b l e (by rwa [Zx _ _ (ne b l e)] at hs),h.real,fun b hb=>by rw [Zx _ _ (by omega)];exact h.bd b (by omega),⟨fun j l e=>Bm (h.ldom.1 j l e),h.ldom.2⟩⟩
 .rw [Zx _ _ (ne b l e)] at hs;rw [Zx _ _ (ne b' l' e')] at hs';exact h.inj b b' l l' e e' he hs hs'
 .rw [Zx _ _ (ne b l e)] at hm;exact h.blk b l ab e hm
theorem B9.birth {ρ:B7} {mem:CD} {next:Nat} {w:World} (h:B9 ρ mem next w) {b:Nat} {cs:List B3} {ty:TypeId} (hb:b<next) (hn:ρ b=none) (hm:Yi mem b=some ⟨cs,ty,none⟩) {vs:Array Value} (el:TypeId) (hv:Uj ρ cs vs) (hel:el=ty):
  B9 (Ux ρ b ⟨w.heap.size,0,cs.length,vs.size⟩) mem next {w with heap:=w.heap.push (.cells vs el)}:=by
 have hle:=Ib (l:=⟨w.heap.size,0,cs.length,vs.size⟩) hn;have eL: ∀c l,Ux ρ b ⟨w.heap.size,0,cs.length,vs.size⟩ c=some l->(c=b/\l=⟨w.heap.size,0,cs.length,vs.size⟩)\/(c≠b/\ρ c=some l):=fun c l e=>by
  grind [Uq]
 refine ⟨fun c l e=> ?_,fun c c' l l' e e' hbl hs hs'=> ?_,fun c l ab e hc=> ?_,fun k o e=> ?_,fun c l e=> ?_,fun c l e=> ?_,h.bd,h.ldom⟩
 .rcases eL c l e with ⟨rfl,_⟩ | ⟨_,e⟩
  .exact hb
  .exact h.dom c l e
 .rcases eL c l e with ⟨hc,hl⟩ | ⟨hc,e2⟩ <;> rcases eL c' l' e' with ⟨hc',hl'⟩ | ⟨hc',e2'⟩
  .rw [hc,hc']
  .have:=h.real c' l' e2';grind
  .have:=h.real c l e2;grind
  .exact h.inj c c' l l' e2 e2' hbl hs hs'
 .rcases eL c l e with ⟨rfl,rfl⟩ | ⟨_,e⟩
  .rw [hm] at hc;obtain rfl:=Ag hc;have h1:=hv.1;refine .plain ⟨by simp [hel],rfl,by grind,(fun A e=>by cases e),vs,el,by simp,by simp,fun i hi=> ?_⟩;have h2:i<vs.size:=by grind
   exact ⟨vs[i],by grind,(hv.2 i hi h2).mono hle⟩
  .refine (h.blk c l ab e hc).world hle ?_;have:=h.real c l e
   grind
 .have hk:=h.old k o e
  grind
 .intro hs;rcases eL c l e with ⟨rfl,rfl⟩ | ⟨_,e⟩
  .exact h.hold _ (An _)
  .exact h.sep c l e hs
 .rcases eL c l e with ⟨rfl,rfl⟩ | ⟨_,e⟩
  .simp
  .have:=h.real c l e;simp;omega
structure DH (S:B6) (z:Nat) (P:Program) (ops:Array Oper) (cx:CI) (st:St) (f:Nat->St):Prop where
 chk:v9c z ops
 f0:f 0=st
 hcx:cx.floor<=st.next
 ob: ∀k,k<=ops.size->(f k).ob =true
 step: ∀(k:Nat) (h:k<(Yp ops).length),W6 S z P ops cx (Dw ops (Yp ops)[k],ops.getD (Yp ops)[k] default) (f k) (f (k+1))
 foot: ∀(q k:Nat) (hq:q<k) (h:k<(Yp ops).length),R5 ops (Fp S ((Yp ops)[k],Dw ops (Yp ops)[k],ops.getD (Yp ops)[k] default) (f k).eval) (Fp S ((Yp ops)[q],Dw ops (Yp ops)[q],ops.getD (Yp ops)[q] default) (f q).eval)\/
  lateF z ops ((Yp ops)[k],Dw ops (Yp ops)[k],ops.getD (Yp ops)[k] default) (f k).eval (f k).mem (Fp S ((Yp ops)[q],Dw ops (Yp ops)[q],ops.getD (Yp ops)[q] default) (f q).eval)=true
variable {Sp:B6} {z:Nat} {ops:Array Oper} {cx:CI} {st:St} {f:Nat->St}
def CC (ops:Array Oper) (k:Nat):Nat:=(Yp ops).getD k ops.size
theorem W8 {k:Nat} (h:k<ops.size):CC ops k<ops.size:=by
 have hl:k<(Yp ops).length :=by rw [Xd];exact h
 have:CC ops k=(Yp ops)[k]:=by simp [CC,hl]
 rw [this];exact (y0w _).1 (A3 hl)
theorem Es {k1 k2:Nat} (h:k1<k2) (h2:k2<ops.size):Ord ops (CC ops k1) (CC ops k2):=by
 grind [Xd,x4m,CC]
theorem j6b {i:Nat} (h:i<ops.size): ∃k,k<ops.size/\CC ops k=i:=by obtain ⟨k,hk,e⟩:=A6 ((y0w (ops:=ops) i).2 h);exact ⟨k,by rw [Xd] at hk;exact hk,by simp [CC,hk,e]⟩
theorem DH.step' (g:DH Sp z P ops cx st f) {k:Nat} (h:k<ops.size): ∃o,ops[CC ops k]? =some o/\W6 Sp z P ops cx (Dw ops (CC ops k),o) (f k) (f (k+1)):=by
 have hl:k<(Yp ops).length :=by rw [Xd];exact h
 have e:CC ops k=(Yp ops)[k]:=by simp [CC,hl]
 have hlt:=W8 h;refine ⟨ops[CC ops k],by simp [hlt],?_⟩;have:=g.step k hl;rw [<-e] at this;have hd:ops.getD (CC ops k) default=ops[CC ops k]:=by simp [hlt]
 grind
theorem DH.foot' (g:DH Sp z P ops cx st f) {q k:Nat} (hq:q<k) (h:k<ops.size) {o x:Oper} (ho:ops[CC ops k]? =some o) (hx:ops[CC ops q]? =some x):
  R5 ops (CC ops k,EY o.op (f k).eval,EU Sp o.op (f k).eval) (CC ops q,EY x.op (f q).eval,EU Sp x.op (f q).eval)\/lateF z ops (CC ops k,Dw ops (CC ops k),o) (f k).eval (f k).mem (CC ops q,EY x.op (f q).eval,EU Sp x.op (f q).eval)=true:=by
 have hl:k<(Yp ops).length :=by rw [Xd];exact h
 have hl2:q<(Yp ops).length :=by omega
 have e:CC ops k=(Yp ops)[k]:=by simp [CC,hl]
 have e2:CC ops q=(Yp ops)[q]:=by simp [CC,hl2]
 have:=g.foot q k hq hl;rw [<-e,<-e2] at this;have hd:ops.getD (CC ops k) default=o:=by simp [ho]
 have hd2:ops.getD (CC ops q) default=x:=by simp [hx]
 rw [hd,hd2] at this;exact this
theorem DH.next_le (g:DH Sp z P ops cx st f): ∀{a b:Nat},a<=b->b<=ops.size->(f a).next <=(f b).next :=by
 intro a b hab hb
 induction b with
 | zero=>grind
 | succ b ih=>
  by_cases e:a=b+1
  .grind
  .obtain ⟨o,_,s⟩:=g.step' (k:=b) (by omega);exact AN (ih (by omega) (by omega)) s.inv.nxt
theorem DH.bd (g:DH Sp z P ops cx st f) (h0: ∀b,st.next<=b->Yi st.mem b=none): ∀{k:Nat},k<=ops.size-> ∀b,(f k).next <=b->Yi (f k).mem b=none:=by
 intro k hk
 induction k with
 | zero=>rw [g.f0];exact h0
 | succ k ih=>obtain ⟨o,_,s⟩:=g.step' (k:=k) (by omega);exact s.inv.bd (ih (by omega))
theorem DH.slot_stays (g:DH Sp z P ops cx st f) {t:Tmp}: ∀{a b:Nat},a<=b->b<=ops.size->(∀k o,a<=k->k<b->ops[CC ops k]? =some o->o.dst≠some t)->(f b).tmp t=(f a).tmp t:=by
 intro a b hab hb hno
 induction b with
 | zero=>grind
 | succ b ih=>
  by_cases e:a=b+1
  .subst e;rfl
  .obtain ⟨o,ho,s⟩:=g.step' (k:=b) (by omega);rw [s.other (g.ob _ hb) t (hno b o (by omega) (by omega) ho)]
   grind
def EA (z:Nat) (o:Oper):Prop:=Xg z o.op=.chain \/Xg z o.op=.call
def MG (z:Nat) (o:Oper):Prop:=Xg z o.op=.pure \/Xg z o.op=.lit
def Ea (z:Nat) (o:Oper):Prop:=Xg z o.op=.alloc \/Xg z o.op=.birth
theorem ME (z:Nat) (o:Oper):MG z o\/Xg z o.op=.read \/Ea z o\/EA z o:=by unfold EA MG Ea;cases Xg z o.op <;> simp
theorem DH.mem_stays (g:DH Sp z P ops cx st f): ∀{a b:Nat},a<=b->b<=ops.size->(∀k o,a<=k->k<b->ops[CC ops k]? =some o->MG z o\/Xg z o.op=.read)->(f b).mem =(f a).mem /\(f b).next =(f a).next :=by
 intro a b hab hb hno
 induction b with
 | zero=>grind
 | succ b ih=>
  by_cases e:a=b+1
  .grind
  .obtain ⟨o,ho,s⟩:=g.step' (k:=b) (by omega);obtain ⟨e1,e2⟩:=s.stay (by rcases hno b o (by omega) (by omega) ho with (k | k) | k <;> simp [k])
   grind
theorem DH.blk_stays (g:DH Sp z P ops cx st f) {x:Nat}: ∀{a b:Nat},a<=b->b<=ops.size->x<(f a).next ->
  (∀k o,a<=k->k<b->ops[CC ops k]? =some o->MG z o\/Xg z o.op=.read \/(Xg z o.op=.call /\Dw ops (CC ops k)=true/\EU Sp o.op (f k).eval ≠some x)\/(Xg z o.op=.chain /\Dt o.op (f k).eval ≠some x)\/Ea z o)->Yi (f b).mem x=Yi (f a).mem x:=by
 intro a b hab hb hx hno
 induction b with
 | zero=>grind
 | succ b ih=>
  by_cases e:a=b+1
  .subst e;rfl
  .obtain ⟨o,ho,s⟩:=g.step' (k:=b) (by omega);have ih:=ih (by omega) (by omega) fun k o h1 h2=>hno k o h1 (by omega);rw [<-ih];rcases hno b o (by omega) (by omega) ho with h1 | h1 | ⟨h1,h2,h3⟩ | ⟨h1,h2⟩ | h1
   .rw [(s.stay (by rcases h1 with k | k <;> simp [k])).1]
   .rw [(s.stay (.inr (.inl h1))).1]
   .exact s.lift (g.ob _ hb) h2 h1 x (A4 hx (g.next_le (by omega) (by omega))) h3
   .exact s.foot (g.ob _ hb) h1 x (A4 hx (g.next_le (by omega) (by omega))) h2
   .obtain ⟨cells,ty,e1,_,_⟩:=s.fresh (g.ob _ hb) h1 (g.chk.guard _ o ho h1);have:=A4 hx (g.next_le (a:=a) (b:=b) (by omega) (by omega));rw [e1,Zx _ _ (by omega)]
structure Eq (z:Nat) (P:Program) (D:List Deferred) (ops:Array Oper) (cx:CI) (st:St) (f:Nat->St) (ρ0:B7) (w0:World) (S:Nat->Bool) (p:Nat) (ρ:B7) (a:Act) (w:World):Prop where
 closed:HD ops S
 defers:a.defers=D
 tsz:a.tmps.size=cx.n
 done: ∀k o d,k<ops.size->ops[CC ops k]? =some o->S (CC ops k)=true->o.dst=some d->Zr ρ ((f (k+1)).tmp d) (a.tmps.getD d undef)
 undone: ∀t,(∀i o,ops[i]? =some o->S i=true->o.dst≠some t)->Zr ρ (st.tmp t) (a.tmps.getD t undef)
 ple:p<=ops.size
 past: ∀k o,k<ops.size->ops[CC ops k]? =some o->Ea z o->k<p
 chain: ∀k o,k<ops.size->ops[CC ops k]? =some o->EA z o->(S (CC ops k)=true↔k<p)
 rel:B9 ρ (f p).mem (f p).next w
 ev:Ev ρ0 ρ cx.floor st.mem st.next (f p).mem (f p).next w0 w
 late: ∀k q o x b ab,k<q->q<p->q<ops.size->ops[CC ops k]? =some o->ops[CC ops q]? =some x->S (CC ops k)=false->EA z x->G7 z ops (CC ops k) (CC ops q)=true->EV x.op (f q).eval (f q).mem =some b->Yi (f q).mem b=some ab->B9 ρ (Wx .leaf b (some ab)) (f p).next w
 allocs: ∀k o,k<ops.size->ops[CC ops k]? =some o->Ea z o->S (CC ops k)=false->st.next<=(f k).next /\(f k).next <(f p).next /\ρ (f k).next =none/\Yi (f p).mem (f k).next =Yi (f (k+1)).mem (f k).next
theorem y7l {o:Oper} {t:Tmp} (h:Operand.tmp t∈o.op.operands):t∈o.looksAt ops:=by unfold Oper.looksAt;rw [AM];left;rw [List.mem_filterMap];exact ⟨.tmp t,Array.mem_toList_iff.2 h,rfl⟩
theorem x3x {o:Oper} {d:Tmp} (h:Us ops o=some d):d∈o.looksAt ops:=by
 grind [Oper.looksAt,Us]
theorem w4i (g:DH Sp z P ops cx st f) {i:Nat} {o:Oper} (ho:ops[i]? =some o) (hk:Xg z o.op=.alloc):o.looksAt ops=[]:=by
 unfold Oper.looksAt;rw [g.chk.guard i o ho (.inl hk)];rw [US] at hk;obtain ⟨dst,op,type,pos,after,guard⟩:=o;simp only at hk ⊢;cases op with
 | alloc t=>rfl
 | call c=>
  obtain ⟨callee,args,argTypes⟩:=c;cases callee with
  | builtin b=>cases b <;> cases hk
  | value f=>cases hk
  | invoke r m=>cases hk
 | _=>cases hk
section
variable {D:List Deferred} {ρ0:B7} {w0:World} {S:Nat->Bool} {p:Nat} {ρ:B7} {a:Act} {w:World}
theorem x4n (g:DH Sp z P ops cx st f) {i j:Nat} {x y:Oper} {d:Tmp} (hi:ops[i]? =some x) (hj:ops[j]? =some y) (hx:x.dst=some d) (hy:y.dst=some d):i=j:=by
 rcases Bq i j with h | h | h
 .exact absurd hy (g.chk.dst i j x y d h hi hj hx)
 .exact h
 .exact absurd hx (g.chk.dst j i y x d h hj hi hy)
theorem Eq.looks (g:DH Sp z P ops cx st f) (I:Eq z P D ops cx st f ρ0 w0 S p ρ a w) {k:Nat} {o:Oper} (hk:k<ops.size) (ho:ops[CC ops k]? =some o) (hns:S (CC ops k)=false) (eN:HK S o) {t:Tmp} (ht:t∈o.looksAt ops):
  Zr ρ ((f k).tmp t) (a.tmps.getD t undef):=by
 by_cases hw: ∃i x,ops[i]? =some x/\S i=true/\x.dst=some t
 .obtain ⟨i,x,hx,hs,hd⟩:=hw;have hil:i<ops.size:=(AB.1 hx).1;obtain ⟨k',hk',rfl⟩:=j6b hil;have hne:k'≠k:=fun e=>by grind
  have hlt:k'<k:=by
   rcases Ba k' k with h | h
   .exact h
   .exfalso;have hkk:k<k':=(by omega);rcases Bq (CC ops k) (CC ops k') with hij | hij | hij
    .rcases g.chk.pair _ _ _ _ hij ho hx with hf | ⟨hap,_⟩
     .have:=hf S I.closed (fun e he hb=>I.closed _ _ hx hs e he hb)
      grind
     grind [Oper.apart_spec]
    .grind
    .rcases Es hkk hk' with ⟨h1,_⟩ | ⟨_,h2⟩;all_goals grind [w4i,Jg]
  have hst:(f k).tmp t=(f (k'+1)).tmp t:=g.slot_stays (by omega) (by omega) fun q y h1 h2 hy hyd=>by
   have:=x4n g hx hy hd hyd;have e:CC ops k'=CC ops q:=this;rcases Es (ops:=ops) (k1:=k') (k2:=q) (by omega) (by omega) with ⟨h1,h2⟩ | ⟨_,h2⟩;all_goals grind
  rw [hst];exact I.done k' x t hk' hx hs hd
 .have hno: ∀i x,ops[i]? =some x->S i=true->x.dst≠some t:=fun i x hx hs hd=>hw ⟨i,x,hx,hs,hd⟩;have hst:(f k).tmp t=(f 0).tmp t:=g.slot_stays (AF _) (by omega) fun q y _ h2 hy hyd=>by
   have hqs:S (CC ops q)=false:=by
    grind
   rcases Bq (CC ops q) (CC ops k) with hij | hij | hij
   .rcases g.chk.pair _ _ _ _ hij hy ho with hf | ⟨hap,_⟩
    .have:=hf S I.closed eN
     grind
    grind [Oper.apart_spec]
   .rcases Es (ops:=ops) h2 hk with ⟨h1,h3⟩ | ⟨_,h3⟩;all_goals grind
   .rcases Es (ops:=ops) h2 hk with ⟨h1,_⟩ | ⟨_,h3⟩
    .have hap:=g.chk.alloc _ _ _ _ hij ho hy ((Jg (z:=z) hy).1 h1)
     grind [Oper.apart_spec]
    .omega
  rw [hst,g.f0];exact I.undone t hno
theorem Eq.operands (g:DH Sp z P ops cx st f) (I:Eq z P D ops cx st f ρ0 w0 S p ρ a w) {k:Nat} {o:Oper} (hk:k<ops.size) (ho:ops[CC ops k]? =some o) (hns:S (CC ops k)=false) (eN:HK S o):Qv ρ (f k).eval a.eval o.op:=by
 intro x hx;cases x with
 | tmp t=>exact I.looks g hk ho hns eN (y7l hx)
 | const v=>exact v5t v
 | global g=>exact .undef _
 | func f=>exact .fn f [] #[] rfl fun i h1 _=>by simp at h1
theorem Eq.slots (g:DH Sp z P ops cx st f) (I:Eq z P D ops cx st f ρ0 w0 S p ρ a w) {k:Nat} {o:Oper} (hk:k<ops.size) (ho:ops[CC ops k]? =some o) (hns:S (CC ops k)=false) {ρ':B7} (hle:ρ.le ρ') {u:Value}
  (eV: ∀d,o.dst=some d->Zr ρ' ((f (k+1)).tmp d) u) {S':Nat->Bool} (hS: ∀i,S' i=(S i||i == CC ops k)):
  (∀k' x d,k'<ops.size->ops[CC ops k']? =some x->S' (CC ops k')=true->x.dst=some d->Zr ρ' ((f (k'+1)).tmp d) ((a.put o.dst u).tmps.getD d undef))/\
  (∀t,(∀i x,ops[i]? =some x->S' i=true->x.dst≠some t)->Zr ρ' (st.tmp t) ((a.put o.dst u).tmps.getD t undef)):=by
 have other: ∀t,o.dst≠some t->(a.put o.dst u).tmps.getD t undef=a.tmps.getD t undef:=fun t ht=>by
  cases hd:o.dst with
  | none=>rfl
  | some d=>simp_all [Act.put]
 obtain ⟨_,ho',s⟩:=g.step' hk;rw [ho] at ho';obtain rfl:=Ag ho';refine ⟨fun k' x d hk' hx hs hd=> ?_,fun t hno=> ?_⟩
 .by_cases hod:o.dst=some d
  .have e:=x4n g ho hx hod hd;have hkk:k'=k:=by
    rcases Bq k' k with h | h | h
    .rcases Es (ops:=ops) h hk with ⟨h1,h3⟩ | ⟨_,h3⟩;all_goals grind
    .exact h
    .rcases Es (ops:=ops) h hk' with ⟨h1,h3⟩ | ⟨_,h3⟩;all_goals grind
   subst hkk;have hlt:d<a.tmps.size:=by rw [I.tsz];exact s.slot d hod
   simp_all [Act.put]
  .rw [other d hod];have hne:CC ops k'≠CC ops k:=fun e=>by
    grind
   have hs':S (CC ops k')=true:=by
    grind
   exact (I.done k' x d hk' hx hs' hd).mono hle
 .have hod:o.dst≠some t:=hno _ o ho (by rw [hS];simp);rw [other t hod];exact (I.undone t fun i x hx hs=>hno i x hx (by grind)).mono hle
theorem Eq.closes (I:Eq z P D ops cx st f ρ0 w0 S p ρ a w) {i:Nat} {o:Oper} (ho:ops[i]? =some o) (eN:HK S o) {S':Nat->Bool} (hS: ∀j,S' j=(S j||j == i)):HD ops S':=by
 intro j x hx hs e he hb;rw [hS] at hs ⊢;by_cases hj:j=i
 .subst hj;rw [ho] at hx;obtain rfl:=Ag hx;rw [eN e he hb];rfl
 .have:S j=true:=by grind
  rw [I.closed j x hx this e he hb];rfl
theorem v0r {i:Nat} {l:Bool} {o:Oper} {ev:Operand->B3} {mem:CD} {y:D0} (h:Xg z o.op=.read):lateF z ops (i,l,o) ev mem y=false:=by
 have hk:EV o.op ev mem=none:=by
  unfold EV;split
  .rename_i e;rw [e] at h;cases h
  .rfl
 unfold lateF
 grind
theorem v0q {i j b:Nat} {l:Bool} {x:Oper} {ev:Operand->B3} {mem:CD} {wr:Option Nat} (h:lateF z ops (i,l,x) ev mem (j,some b,wr)=true):G7 z ops j i=true/\EV x.op ev mem=some b:=by
 unfold lateF at h;split at h
 .rename_i j' b' e;simp only [Ac,Ae] at e;obtain ⟨rfl,rfl,rfl⟩:=e;split at h;all_goals simp_all
 .cases h
theorem Eq.between (g:DH Sp z P ops cx st f) (I:Eq z P D ops cx st f ρ0 w0 S p ρ a w) {k:Nat} {o:Oper} (hk:k<ops.size) (ho:ops[CC ops k]? =some o) (hns:S (CC ops k)=false) (eN:HK S o) (gJ:Xg z o.op=.read) {b:Nat} (hb:EY o.op (f k).eval =some b):
  (∀q x,p<=q->q<k->ops[CC ops q]? =some x->MG z x\/Xg z x.op=.read \/(Xg z x.op=.call /\Dw ops (CC ops q)=true/\EU Sp x.op (f q).eval ≠some b)\/(Xg z x.op=.chain /\Dt x.op (f q).eval ≠some b)\/Ea z x)/\
  (∀q x,k<=q->q<p->ops[CC ops q]? =some x->MG z x\/Xg z x.op=.read \/(Xg z x.op=.call /\Dw ops (CC ops q)=true/\EU Sp x.op (f q).eval ≠some b)\/(Xg z x.op=.chain /\Dt x.op (f q).eval ≠some b)\/Ea z x\/(EA z x/\G7 z ops (CC ops k) (CC ops q)=true/\EV x.op (f q).eval (f q).mem =some b)):=by
 have nal:isAlloc ops (CC ops k)=false:=by
  grind [Jg]
 constructor
 .intro q x h1 h2 hx;rcases ME z x with h | h | h | h
  .exact .inl h
  .grind
  .grind
  .have hqs:S (CC ops q)=false:=by
    cases e:S (CC ops q) with
    | false=>rfl
    | true=>have:=(I.chain q x (by omega) hx h).1 e;omega
   have hlt:CC ops q<CC ops k:=by
    rcases Es (ops:=ops) h2 hk with ⟨h3,_⟩ | ⟨_,h3⟩
    .have:=I.past q x (by omega) hx (.inl ((Jg (z:=z) hx).1 h3));omega
    .exact h3
   rcases g.chk.pair _ _ _ _ hlt hx ho with hf | ⟨_,hkd,hl,_⟩
   .have:=hf S I.closed eN
    grind
   .have no:EU Sp x.op (f q).eval ≠some b:=fun hw=>by
     have:=(g.foot' h2 hk ho hx).resolve_right (fun hl=>by
      rw [v0r gJ] at hl;cases hl) (.inl (by rw [hb,hw];exact BC b))
     unfold ordered at this;simp only [Bz] at this;rcases this with this | this
     .have:=(g.chk.bits _ _ hx _ this).1;omega
     .have:=(g.chk.bits _ _ ho _ this).2 S I.closed eN
      grind
    rcases h with h | h;all_goals simp_all [x5n,x4b]
 .intro q x h1 h2 hx;have hp:=I.ple;rcases ME z x with h | h | h | h
  .exact .inl h
  .grind
  .grind
  .have hqs:S (CC ops q)=true:=(I.chain q x (by omega) hx h).2 h2;have hne:q≠k:=fun e=>by grind
   have hlt:CC ops k<CC ops q:=by
    rcases Es (ops:=ops) (k1:=k) (k2:=q) (by omega) (by omega) with ⟨h3,_⟩ | ⟨_,h3⟩;all_goals grind
   rcases g.chk.pair _ _ _ _ hlt ho hx with hf | ⟨_,hkd,_,hl⟩
   .have:=hf S I.closed fun e he hb=>I.closed _ _ hx hqs e he hb
    grind
   .rcases g.foot' (q:=k) (k:=q) (by omega) (by omega) hx ho with hfo | hla
    rotate_left
    .grind [v0q]
    have no:EU Sp x.op (f q).eval ≠some b:=fun hw=>by
     have:=hfo (.inr (by rw [hb,hw];exact BC b));unfold ordered at this;simp only [Bz] at this;rcases this with this | this
     .have:=(g.chk.bits _ _ ho _ this).1;omega
     .have:=(g.chk.bits _ _ hx _ this).2 S I.closed fun e he hb=>I.closed _ _ hx hqs e he hb
      grind
    rcases h with h | h;all_goals simp_all [x5n,x4b]
theorem Eq.next_chain (g:DH Sp z P ops cx st f) (I:Eq z P D ops cx st f ρ0 w0 S p ρ a w) {k:Nat} {o:Oper} (hk:k<ops.size) (ho:ops[CC ops k]? =some o) (hns:S (CC ops k)=false) (eN:HK S o) (hch:EA z o):
  p<=k/\(∀q x,q<ops.size->ops[CC ops q]? =some x->EA z x->(S (CC ops q)=true↔q<k)):=by
 have nal:isAlloc ops (CC ops k)=false:=by
  cases e:isAlloc ops (CC ops k) with
  | false=>rfl
  | true=>have:=(Jg (z:=z) ho).1 e;rcases hch with h | h <;> rw [h] at this <;> cases this
 have key: ∀q x,q<ops.size->ops[CC ops q]? =some x->EA z x->(S (CC ops q)=true↔q<k):=by
  intro q x hq hx hxc;have nalx:isAlloc ops (CC ops q)=false:=by
   cases e:isAlloc ops (CC ops q) with
   | false=>rfl
   | true=>have:=(Jg (z:=z) hx).1 e;rcases hxc with h | h <;> rw [h] at this <;> cases this
  have nok: ∀(x y:Oper),EA z x->EA z y->w2k (Xg z x.op) (Xg z y.op)=false:=by
   intro x y hx hy;rcases hx with h | h <;> rcases hy with h' | h' <;> rw [h,h'] <;> rfl
  constructor
  .intro hs;rcases Bq q k with h | h | h
   .exact h
   .grind
   .exfalso;have hlt:CC ops k<CC ops q:=by
     rcases Es (ops:=ops) h hq with ⟨h3,_⟩ | ⟨_,h3⟩;all_goals grind
    rcases g.chk.pair _ _ _ _ hlt ho hx with hf | ⟨_,hkd,_⟩
    .have:=hf S I.closed fun e he hb=>I.closed _ _ hx hs e he hb
     grind
    grind
  .intro h;have hlt:CC ops q<CC ops k:=by
    rcases Es (ops:=ops) h hk with ⟨h3,_⟩ | ⟨_,h3⟩;all_goals grind
   rcases g.chk.pair _ _ _ _ hlt hx ho with hf | ⟨_,hkd,_⟩
   .exact hf S I.closed eN
   grind
 refine ⟨?_,key⟩;rcases Ba k p with h | h
 .have:=(I.chain k o hk ho hch).2 h
  grind
 .exact h
end
end
section
variable {Sp:B6} {z:Nat} {P:Program} {D:List Deferred} {ops:Array Oper} {cx:CI} {st:St} {f:Nat->St}
theorem w8j {ρ ρ':B7} {floor:Nat} {m m':CD} {n n':Nat} {w w':World} (h:B9 ρ m n w) (h':B9 ρ' m' n' w') (e:Ev ρ ρ' floor m n m' n' w w') {b:Nat} {ab:B8} (hm:Yi m b=some ab) (hb: ∀l,ρ b=some l->Wt ρ w' ab l):
  B9 ρ' (Wx .leaf b (some ab)) n' w':=by
 have hbn:b<n:=by
  rcases Ba b n with g | g
  .exact g
  .rw [h.bd b g] at hm;cases hm
 have hn:=e.nxt;have hg: ∀c,(Yi (Wx .leaf b (some ab)) c).isSome =true->c=b:=fun c hc=>by
  by_cases hcb:c=b
  .exact hcb
  .rw [Zx _ _ hcb] at hc;cases hc
 refine ⟨h'.dom,fun c c' l l' _ _ _ hs hs'=>(hg c hs).trans (hg c' hs').symm,fun c l a hc ha=> ?_,h'.old,fun c l hc hs=> ?_,h'.real,fun c hc=> ?_,h'.ldom⟩
 .obtain rfl:=hg c (by rw [ha];rfl);rw [Yz] at ha;obtain rfl:=Ag ha;rw [e.new c hbn] at hc;have q:=hb l hc;exact q.world e.ext rfl
 .obtain rfl:=hg c hs;rw [e.new c hbn] at hc;rw [e.still _ (h.real c l hc)];exact h.sep c l hc (by rw [hm];rfl)
 .rw [Zx _ _ (by omega)];rfl
theorem u4q (g:DH Sp z P ops cx st f) {ρ0:B7} {w0:World} (hout: ∀i,cx.n<=i->T.get .undef st.env i=.undef) (hbd: ∀b,st.next<=b->Yi st.mem b=none): ∀(fuel:Nat) (listed:Array Bool) (p:Nat) (ρ:B7) (a:Act) (w:World),listed.size=ops.size->
  (List.range ops.size).countP (fun i=> !listed.getD i false)=fuel->Eq z P D ops cx st f ρ0 w0 (fun i=>listed.getD i false) p ρ a w->wpAny P .any ops (IV D ρ0 cx st (f ops.size) w0) fuel listed a w:=by
 have someReady: ∀listed:Array Bool,listed.size=ops.size-> ∀i,i<ops.size->listed.getD i false=false-> ∃j,j∈Region.ready .any ops listed:=by
  intro listed hsz i
  induction i using Nat.strongRecOn with
  | _ i ih=>
   intro hi hl;by_cases h: ∃e∈(ops[i]).after.toList,Region.binds .any e=true/\listed.getD e.on false=false
   .obtain ⟨e,he,hb,hf⟩:=h;have hlt:=g.chk.ord i ops[i] (by simp [hi]) e he hb
    grind
   .refine ⟨i,mem_ready.2 ⟨?_,ops[i],by simp [hi],fun e he hb=> ?_⟩⟩;all_goals grind
 intro fuel
 induction fuel with
 | zero=>
  intro listed p ρ a w hsz hcnt I;have fB: ∀i,i<ops.size->listed.getD i false=true:=by simp_all
  refine ⟨?_,rfl,I.defers,ρ,?_,?_,?_⟩
  .simp_all [Region.ready]
  .refine ⟨I.tsz,fun t=> ?_,fun i hi=> ?_⟩
   .by_cases hw: ∃(i:Nat) (x:Oper),ops[i]? =some x/\x.dst=some t
    .obtain ⟨i,x,hx,hd⟩:=hw;have hil:i<ops.size:=(AB.1 hx).1;obtain ⟨k,hk,rfl⟩:=j6b hil;have hst:(f ops.size).tmp t=(f (k+1)).tmp t:=g.slot_stays (by omega) (An _) fun q y h1 h2 hy hyd=>by
      have e:CC ops k=CC ops q:=x4n g hx hy hd hyd;rcases Es (ops:=ops) (k1:=k) (k2:=q) (by omega) h2 with ⟨h3,h4⟩ | ⟨_,h4⟩;all_goals grind
     show Zr ρ ((f ops.size).tmp t) _;rw [hst];exact I.done k x t hk hx (fB _ hil) hd
    .have hst:(f ops.size).tmp t=(f 0).tmp t:=g.slot_stays (AF _) (An _) fun q y _ h2 hy hyd=>hw ⟨_,y,hy,hyd⟩;show Zr ρ ((f ops.size).tmp t) _;rw [hst,g.f0];exact I.undone t fun i x hx _ hd=>hw ⟨i,x,hx,hd⟩
   .have hst:(f ops.size).tmp i=(f 0).tmp i:=g.slot_stays (AF _) (An _) fun q y _ h2 hy hyd=>by obtain ⟨o,ho,s⟩:=g.step' h2;rw [hy] at ho;obtain rfl:=Ag ho;exact absurd hi (Nat.not_le_of_lt (s.slot i hyd))
    show (f ops.size).tmp i=_;rw [hst,g.f0];exact hout i hi
  .obtain ⟨e1,e2⟩:=g.mem_stays I.ple (An _) fun k o h1 h2 ho=>by
    rcases ME z o with h | h | h | h
    .exact .inl h
    .exact .inr h
    .have:=I.past k o h2 ho h;omega
    .have:=(I.chain k o h2 ho h).1 (fB _ (W8 h2));omega
   rw [e1,e2];exact I.rel
  .obtain ⟨e1,e2⟩:=g.mem_stays I.ple (An _) fun k o h1 h2 ho=>by
    rcases ME z o with h | h | h | h
    .exact .inl h
    .exact .inr h
    .have:=I.past k o h2 ho h;omega
    .have:=(I.chain k o h2 ho h).1 (fB _ (W8 h2));omega
   rw [e1,e2];exact I.ev
 | succ fuel ih=>
  intro listed p ρ a w hsz hcnt I;refine ⟨fun hr=> ?_,fun i hi=> ?_⟩
  .exfalso;have: ∃i,i<ops.size/\listed.getD i false=false:=by
    have fK:0<(List.range ops.size).countP (fun i=> !listed.getD i false):=(by omega);obtain ⟨i,hi,h⟩:=List.countP_pos_iff.1 fK
    grind
   grind
  .obtain ⟨hun,o,ho,hafter⟩:=mem_ready.1 hi;have hil:i<ops.size:=(AB.1 ho).1;obtain ⟨k,hk,rfl⟩:=j6b hil;have hil2:CC ops k<listed.size:=by omega
   have hns:listed.getD (CC ops k) false=false:=by grind
   have eN:HK (fun i=>listed.getD i false) o:=fun e he hb=>hafter e (Array.mem_toList_iff.1 he) hb;have hS: ∀j,(listed.setIfInBounds (CC ops k) true).getD j false=(listed.getD j false||j == CC ops k):=by
    intro j;by_cases hj:j=CC ops k
    .simp_all
    .have:(j == CC ops k)=false:=(by grind);simp [this,Array.getElem?_setIfInBounds_ne (Ne.symm hj)]
   have hcnt':(List.range ops.size).countP (fun i=> !(listed.setIfInBounds (CC ops k) true).getD i false)=fuel:=by
    have:=YF (fun i=> !listed.getD i false) (fun i=> !(listed.setIfInBounds (CC ops k) true).getD i false) (CC ops k) ops.size (fun j hj=>by
     grind) (by grind) (by rw [hS];simp) hil
    omega
   have gG:(listed.setIfInBounds (CC ops k) true).size =ops.size:=by grind
   have fW:=I.closes ho eN hS;have undone: ∀{j:Nat},(listed.setIfInBounds (CC ops k) true).getD j false=false->listed.getD j false=false:=fun {j} h=>by
    grind
   have calms: ∀(k1 q:Nat) (o1 x:Oper),k1<q->q<p->q<ops.size->ops[CC ops k1]? =some o1->ops[CC ops q]? =some x->(listed.setIfInBounds (CC ops k) true).getD (CC ops k1) false=false->EA z x->G7 z ops (CC ops k1) (CC ops q)=true->XA z o.op=true:=fun k1 q o1 x c1 c2 c3 c4 c5 c6 c7 c8=>by
    have hq:=(I.chain q x c3 c5 c7).2 c2;have h8:=Ax.1 c8 (CC ops k) (A2.2 hil);rw [ho] at h8;simp only [Bz] at h8;rcases h8 with h8 | h8 | h8 | h8
    .exact h8
    .simp_all
    .have:=(g.chk.bits _ _ c5 _ h8).2 _ I.closed fun e he hb=>I.closed _ _ c5 hq e he hb
     grind
    .have:=(g.chk.bits _ _ ho _ h8).2 _ I.closed eN
     grind
   have notcalm: ∀{α:Prop},Xg z o.op≠ .pure ->Xg z o.op≠ .read ->XA z o.op=true->α:=fun h1 h2 h=>by
    grind [XA]
   obtain ⟨o',ho',s⟩:=g.step' hk;rw [ho] at ho';obtain rfl:=Ag ho';have hops:=I.operands g hk ho hns eN;have hguard: ∀d,Us ops o=some d->Zr ρ ((f k).tmp d) (a.tmps.getD d undef):=fun d hd=>I.looks g hk ho hns eN (x3x hd);have hob:=g.ob (k+1) (by omega);have finish: ∀{q:Prop},(if Region.wanted o (yielded ops a.tmps) then o.wp P a w (wpAny P .any ops (IV D ρ0 cx st (f ops.size) w0) fuel (listed.setIfInBounds (CC ops k) true)) (IV D ρ0 cx st (f ops.size) w0) else wpAny P .any ops (IV D ρ0 cx st (f ops.size) w0) fuel (listed.setIfInBounds (CC ops k) true) (a.put o.dst undef) w)->
     wpOp P ops (IV D ρ0 cx st (f ops.size) w0) (CC ops k) (wpAny P .any ops (IV D ρ0 cx st (f ops.size) w0) fuel (listed.setIfInBounds (CC ops k) true)) a w:=by
    grind [wpOp]
   have calm:(Xg z o.op=.pure \/Xg z o.op=.read)->wpOp P ops (IV D ρ0 cx st (f ops.size) w0) (CC ops k) (wpAny P .any ops (IV D ρ0 cx st (f ops.size) w0) fuel (listed.setIfInBounds (CC ops k) true)) a w:=by
    intro hkd;obtain ⟨memC,hrelC,hagC⟩: ∃memC,B9 ρ memC (f p).next w/\ ∀t y b ab,o.op=.load t y->EY o.op (f k).eval =some b->Yi (f k).mem b=some ab->Yi memC b=some ab:=by
     by_cases hl: ∃t y b ab q x,o.op=.load t y/\EY o.op (f k).eval =some b/\Yi (f k).mem b=some ab/\k<=q/\q<p/\ops[CC ops q]? =some x/\EA z x/\G7 z ops (CC ops k) (CC ops q)=true/\EV x.op (f q).eval (f q).mem =some b
     .obtain ⟨t,y,b,ab,q0,x0,hop,hrd,hm,l1,l2,l3,l4,l5,l6⟩:=hl;have gJ:Xg z o.op=.read :=by rw [hop];rfl
      obtain ⟨_,b2⟩:=I.between g hk ho hns eN gJ hrd;have hbn:b<(f k).next :=by
       rcases Ba b (f k).next with h | h
       .exact h
       .rw [g.bd hbd (by omega) b h] at hm;cases hm
      have first: ∀n q x,q<=n->k<=q->q<p->ops[CC ops q]? =some x->EA z x->G7 z ops (CC ops k) (CC ops q)=true->EV x.op (f q).eval (f q).mem =some b->
        ∃q x,k<=q/\q<p/\ops[CC ops q]? =some x/\EA z x/\G7 z ops (CC ops k) (CC ops q)=true/\EV x.op (f q).eval (f q).mem =some b/\ ∀q' x',k<=q'->q'<q->ops[CC ops q']? =some x'-> ¬(EA z x'/\G7 z ops (CC ops k) (CC ops q')=true/\EV x'.op (f q').eval (f q').mem =some b):=by
       intro n
       induction n with
       | zero=>grind
       | succ n ih=>
        intro q x h0 h1 h2 h3 h4 h5 h6;by_cases he: ∃q' x',k<=q'/\q'<q/\ops[CC ops q']? =some x'/\EA z x'/\G7 z ops (CC ops k) (CC ops q')=true/\EV x'.op (f q').eval (f q').mem =some b
        .obtain ⟨q',x',e1,e2,e3,e4,e5,e6⟩:=he;exact ih q' x' (by omega) e1 (by omega) e3 e4 e5 e6
        .exact ⟨q,x,h1,h2,h3,h4,h5,h6,fun q' x' e1 e2 e3 e4=>he ⟨q',x',e1,e2,e3,e4⟩⟩
      obtain ⟨q,x,h1,h2,h3,h4,h5,h6,h7⟩:=first q0 q0 x0 (An _) l1 l2 l3 l4 l5 l6
      have hple:=I.ple;have hne:k≠q:=fun e=>by
       rw [<-e,ho] at h3;obtain rfl:=Ag h3;rcases h4 with h | h <;> rw [gJ] at h <;> cases h
      have hst:=g.blk_stays (x:=b) (a:=k) (b:=q) h1 (by omega) hbn fun q' x' e1 e2 e3=>by
       rcases b2 q' x' e1 (by omega) e3 with d | d | d | d | d | d;all_goals grind
      refine ⟨_,I.late k q o x b ab (by omega) h2 (by omega) ho h3 hns h4 h5 h6 (by grind),fun t' y' b' ab' hop' hrd' hm'=> ?_⟩
      grind [Yz]
     .refine ⟨(f p).mem,I.rel,fun t y b ab hop hrd hm=> ?_⟩;have gJ:Xg z o.op=.read :=by rw [hop];rfl
      obtain ⟨b1,b2⟩:=I.between g hk ho hns eN gJ hrd;have b2: ∀q x,k<=q->q<p->ops[CC ops q]? =some x->MG z x\/Xg z x.op=.read \/(Xg z x.op=.call /\Dw ops (CC ops q)=true/\EU Sp x.op (f q).eval ≠some b)\/(Xg z x.op=.chain /\Dt x.op (f q).eval ≠some b)\/Ea z x:=fun q x e1 e2 e3=>by
       rcases b2 q x e1 e2 e3 with d | d | d | d | d | d;all_goals grind
      have hρ: ∃l,ρ b=some l:=by
       have:=hops y (by rw [hop];simp [Op.operands]);rw [hop] at hrd;simp only [EY] at hrd;generalize a.eval y=uy at this;split at hrd
       .rename_i hy;rw [hy] at this;obtain rfl:=Ag hrd;cases this with
        | ptr _ _ l h=>grind
       .rename_i hy;rw [hy] at this;obtain rfl:=Ag hrd;cases this with
        | epa _ _ _ _ l h=>grind
       .cases hrd
      obtain ⟨l,hl⟩:=hρ;rcases Nat.le_total p k with hpk | hpk
      .have:=g.blk_stays (x:=b) hpk (by omega) (I.rel.dom b l hl) b1
       grind
      .have hbn:b<(f k).next :=by
        rcases Ba b (f k).next with h | h
        .exact h
        .rw [g.bd hbd (by omega) b h] at hm;cases hm
       have:=g.blk_stays (x:=b) hpk I.ple hbn b2
       grind
    refine finish (q:=True) (s.calm hob hkd ρ a w (f k).eval memC (f p).next I.tsz (fun _ _=>rfl) hguard hops hrelC hagC _ _ fun u eV=> ?_)
    .obtain ⟨d1,d2⟩:=I.slots g hk ho hns (B7.le_refl ρ) eV hS;refine ih _ p ρ _ w gG hcnt' ⟨fW,by rw [Act.put_defers'];exact I.defers,by cases h:o.dst <;> simp [Act.put,I.tsz],d1,d2,I.ple,I.past,fun q x hq hx hc=> ?_,I.rel,I.ev,fun k1 q o1 x b ab c1 c2 c3 c4 c5 c6=>I.late k1 q o1 x b ab c1 c2 c3 c4 c5 (undone c6),fun q x hq hx hnw hs=> ?_⟩
     .have hne:CC ops q≠CC ops k:=fun e=>by
       rw [e,ho] at hx;obtain rfl:=Ag hx;rcases hc with h | h <;> rcases hkd with h' | h' <;> rw [h] at h' <;> cases h'
      rw [hS]
      simpa [hne] using I.chain q x hq hx hc
     .rw [hS] at hs;simp only [AT] at hs;exact I.allocs q x hq hx hnw hs.1
   rcases ME z o with (hkd | hkd) | hkd | hkd | hkd
   .grind
   ·-- a slice that is written out, as data
    refine finish (q:=True) (s.lit hob hkd ρ a w (f k).eval (f p).mem (f p).next I.tsz (fun _ _=>rfl) hguard hops I.rel _ _ fun ρ' u w' eV eZ eQ hev=> ?_);obtain ⟨d1,d2⟩:=I.slots g hk ho hns (hev cx.floor (f p).mem).ext eV hS;refine ih _ p ρ' _ w' gG hcnt' ⟨fW,by rw [Act.put_defers'];exact I.defers,by cases h:o.dst <;> simp [Act.put,I.tsz],d1,d2,I.ple,I.past,fun q x hq hx hc=> ?_,eZ,I.ev.trans (hev _ _),fun k1 q o1 x b ab c1 c2 c3 c4 c5 c6 c7 c8=>notcalm (by grind) (by grind) (calms k1 q o1 x c1 c2 c3 c4 c5 c6 c7 c8),fun q x hq hx hnw hs=> ?_⟩
    .have hne:CC ops q≠CC ops k:=fun e=>by
      rw [e,ho] at hx;obtain rfl:=Ag hx;rcases hc with h | h <;> rw [h] at hkd <;> cases hkd
     rw [hS]
     simpa [hne] using I.chain q x hq hx hc
    .rw [hS] at hs;simp only [AT] at hs;obtain ⟨m1,m2,m3,m4⟩:=I.allocs q x hq hx hnw hs.1
     grind
   .grind
   ·-- a block is made
    have hgn:=g.chk.guard _ o ho hkd;obtain ⟨cells,ty,hm1,hn1,hborn⟩:=s.fresh hob hkd hgn;obtain ⟨l1,l2,l3,l4⟩:=I.allocs k o hk ho hkd hns;rw [hm1,Yz] at l4;obtain ⟨u,vs,el,hel,hvs,eH,eV⟩:=hborn ρ a w (f k).eval (fun _ _=>rfl) hops;have eZ:=I.rel.birth l2 l3 l4 el hvs hel;refine finish (q:=True) ?_;rw [AG (by unfold Region.wanted;rw [hgn])];unfold Oper.wp;rw [eH];have hle:ρ.le (Ux ρ (f k).next ⟨w.heap.size,0,cells.length,vs.size⟩):=Ib l3;obtain ⟨d1,d2⟩:=I.slots g hk ho hns hle (u:=u) (fun d hd=>eV _ (by simp [Ux]) d hd) hS;have ev':Ev ρ0 (Ux ρ (f k).next ⟨w.heap.size,0,cells.length,vs.size⟩) cx.floor st.mem st.next (f p).mem (f p).next w0 {w with heap:=w.heap.push (.cells vs el)}:=by
     have e:=I.ev;refine ⟨B7.le_trans e.ext hle,fun b hb=> ?_,e.nxt,e.unborn,fun q ob hq hf=> ?_,fun b l hb hl=> ?_,?_,e.os,e.tape,e.output,e.still⟩
     .rw [<-e.new b hb];rw [Uq,Az (by omega)]
     .have:=e.frame q ob hq hf
      grind
     .rw [Uq] at hl;by_cases hbk:b=(f k).next
      .rw [AG hbk] at hl;obtain rfl:=Ag hl;exact .inl e.size
      .rw [Az hbk] at hl;exact e.fresh b l hb hl
     .have:=e.size;simp;omega
    refine ih _ p _ _ _ gG hcnt' ⟨fW,by rw [Act.put_defers'];exact I.defers,by cases h:o.dst <;> simp [Act.put,I.tsz],d1,d2,I.ple,I.past,fun q x hq hx hc=> ?_,eZ,ev',fun k1 q o1 x b ab c1 c2 c3 c4 c5 c6 c7 c8=>notcalm (by rcases hkd with h | h <;> rw [h] <;> exact fun h=>by cases h) (by rcases hkd with h | h <;> rw [h] <;> exact fun h=>by cases h) (calms k1 q o1 x c1 c2 c3 c4 c5 c6 c7 c8),fun q x hq hx hnw hs=> ?_⟩
    .have hne:CC ops q≠CC ops k:=fun e=>by
      rw [e,ho] at hx;obtain rfl:=Ag hx;rcases hc with h | h <;> rcases hkd with h' | h' <;> rw [h] at h' <;> cases h'
     rw [hS]
     simpa [hne] using I.chain q x hq hx hc
    .rw [hS] at hs;simp only [AT] at hs;obtain ⟨m1,m2,m3,m4⟩:=I.allocs q x hq hx hnw hs.1;refine ⟨m1,m2,?_,m4⟩;have hne:(f q).next ≠(f k).next :=by
      have hqk:q≠k:=fun e=>by grind
      have up: ∀q x,q<ops.size->ops[CC ops q]? =some x->Ea z x->(f (q+1)).next =(f q).next +1:=by intro q x hq hx hn;obtain ⟨x',hx',s'⟩:=g.step' hq;rw [hx] at hx';obtain rfl:=Ag hx';obtain ⟨_,_,_,h6,_⟩:=s'.fresh (g.ob _ (by omega)) hn (g.chk.guard _ x hx hn);exact h6
      rcases Bq q k with h | h | h
      .have h1:=up q x hq hx hnw;have h2:=g.next_le (a:=q+1) (b:=k) (by omega) (by omega);omega
      .grind
      .have h1:=up k o hk ho hkd;have h2:=g.next_le (a:=k+1) (b:=q) (by omega) (by omega);omega
     grind [Uq]
   ·-- the next one that may write
    obtain ⟨hpk,hch⟩:=I.next_chain g hk ho hns eN hkd;obtain ⟨e1,e2⟩:=g.mem_stays hpk (by omega) fun q x h1 h2 hx=>by
     rcases ME z x with h | h | h | h
     .exact .inl h
     .exact .inr h
     .have:=I.past q x (by omega) hx h;omega
     .have:=(I.chain q x (by omega) hx h).1 ((hch q x (by omega) hx h).2 h2);omega
    have eD:B9 ρ (f k).mem (f k).next w:=by rw [e1,e2];exact I.rel
    refine finish (q:=True) (s.does hob hkd ρ a w (f k).eval I.tsz (fun _ _=>rfl) hguard hops eD _ _ fun ρ' u w' eV eZ hev hlate=> ?_);obtain ⟨d1,d2⟩:=I.slots g hk ho hns hev.ext eV hS;have hev0:=hev;rw [e1,e2] at hev;refine ih _ (k+1) ρ' _ w' gG hcnt' ⟨fW,by rw [Act.put_defers'];exact I.defers,by cases h:o.dst <;> simp [Act.put,I.tsz],d1,d2,by omega,fun q x hq hx hc=>by have:=I.past q x hq hx hc;omega,fun q x hq hx hc=> ?_,eZ,I.ev.trans hev,fun k1 q o1 x b ab c1 c2 c3 c4 c5 c6 c7 c8 c9 c10=> ?late,fun q x hq hx hnw hs=> ?_⟩
    case late=>
     by_cases hqk:q=k
     .subst hqk;rw [ho] at c5;obtain rfl:=Ag c5;exact w8j eD eZ hev0 c10 fun l hl=>hlate b ab l c9 c10 hl
     .have hqs:=(hch q x c3 c5 c7).2 (by omega);have hqp:=(I.chain q x c3 c5 c7).1 hqs;exact notcalm (by rcases hkd with h | h <;> rw [h] <;> exact fun h=>by cases h) (by rcases hkd with h | h <;> rw [h] <;> exact fun h=>by cases h) (calms k1 q o1 x c1 hqp c3 c4 c5 c6 c7 c8)
    .rw [hS];by_cases hqk:q=k
     .grind
     .have hne:CC ops q≠CC ops k:=fun e=>by
       rcases Ba q k with h | h
       .grind
       .rcases Es (ops:=ops) (k1:=k) (k2:=q) (by omega) hq with ⟨h3,h4⟩ | ⟨_,h4⟩;all_goals grind
      have:=hch q x hq hx hc;simp only [beq_eq_false_iff_ne.2 hne,Bool.or_false];rw [this];omega
    .rw [hS] at hs;simp only [AT] at hs;obtain ⟨m1,m2,m3,m4⟩:=I.allocs q x hq hx hnw hs.1;obtain ⟨x',hx',s'⟩:=g.step' hq;rw [hx] at hx';obtain rfl:=Ag hx';obtain ⟨cells,ty,hm1,_,_⟩:=s'.fresh (g.ob _ (by omega)) hnw (g.chk.guard _ x hx hnw);have e0:Yi (f (q+1)).mem (f q).next =some ⟨cells,ty,none⟩:=by rw [hm1,Yz]
     rw [e0] at m4;refine ⟨m1,A4 m2 hev.nxt,by rw [hev.new _ m2];exact m3,by rw [e0];exact hev.unborn _ m2 m3 _ _ m4⟩
theorem v6y (g:DH Sp z P ops cx st f) {ρ:B7} {a:Act} {w:World} (hd:a.defers=D) (eI:Vk ρ st.env cx.n a.tmps) (eD:B9 ρ st.mem st.next w):
  ∃p,Eq z P D ops cx st f ρ w (fun i=>(Array.replicate ops.size false).getD i false) p ρ a w:=by
 have hf: ∀i,(Array.replicate ops.size false).getD i false=false:=fun i=>by
  by_cases h:i<ops.size;all_goals simp_all
 have hA: ∃p,p<=ops.size/\(∀k o,k<ops.size->ops[CC ops k]? =some o->Ea z o->k<p)/\(p=0\/ ∃o,ops[CC ops (p - 1)]? =some o/\Ea z o):=by
  have: ∀n,n<=ops.size-> ∃p,p<=n/\(∀k o,k<n->ops[CC ops k]? =some o->Ea z o->k<p)/\(p=0\/ ∃o,ops[CC ops (p - 1)]? =some o/\Ea z o):=by
   intro n
   induction n with
   | zero=>grind
   | succ n ih=>
    intro hn;obtain ⟨p,hp,hk,gK⟩:=ih (by omega);have hlt:=W8 (ops:=ops) (k:=n) (by omega);have hx:ops[CC ops n]? =some ops[CC ops n]:=(by simp [hlt]);by_cases e:Ea z ops[CC ops n]
    .exact ⟨n+1,An _,fun k o h _ _=>h,.inr ⟨_,hx,e⟩⟩
    .refine ⟨p,by omega,fun k o h ho hnw=> ?_,gK⟩;by_cases hkn:k=n
     .grind
     .exact hk k o (by omega) ho hnw
  simp_all
 obtain ⟨p,hp,hpk,gK⟩:=hA;have noch: ∀k o,k<p->ops[CC ops k]? =some o-> ¬EA z o:=by
  intro k o hk ho hc;rcases gK with h0 | ⟨x,hx,hnw⟩
  .omega
  .by_cases hkp:k=p - 1
   .rw [<-hkp,ho] at hx;obtain rfl:=Ag hx;rcases hc with h | h <;> rcases hnw with h' | h' <;> rw [h] at h' <;> cases h'
   .have nal:isAlloc ops (CC ops k)=false:=by
     cases e:isAlloc ops (CC ops k) with
     | false=>rfl
     | true=>
      have:=(Jg (z:=z) ho).1 e;rcases hc with h | h <;> rw [h] at this <;> cases this
    rcases Es (ops:=ops) (k1:=k) (k2:=p - 1) (by omega) (by omega) with ⟨h3,_⟩ | ⟨h3,h4⟩
    .grind
    .rw [nal] at h3;rcases hnw with hnw | hnw
     .grind [Jg]
     .exact g.chk.birth _ _ _ _ h4 ho hx hnw hc
 have stepAt: ∀k,k<p->((f (k+1)).mem =(f k).mem /\(f (k+1)).next =(f k).next)\/ ∃cells ty,(f (k+1)).mem =Wx (f k).mem (f k).next (some ⟨cells,ty,none⟩)/\(f (k+1)).next =(f k).next +1:=by
  intro k hk;obtain ⟨o,ho,s⟩:=g.step' (k:=k) (by omega);rcases ME z o with h | h | h | h
  .exact .inl (s.stay (by rcases h with h | h <;> simp [h]))
  .exact .inl (s.stay (.inr (.inl h)))
  .obtain ⟨cells,ty,h1,h2,_⟩:=s.fresh (g.ob _ (by omega)) h (g.chk.guard _ o ho h)
   grind
  grind
 have start: ∀k,k<=p->B9 ρ (f k).mem (f k).next w/\Ev ρ ρ cx.floor st.mem st.next (f k).mem (f k).next w w:=by
  intro k
  induction k with
  | zero=>intro _;rw [g.f0];exact ⟨eD,Ev.refl _ _ _ _ _ eD.dom⟩
  | succ k ih=>
   intro hk;obtain ⟨hr,he⟩:=ih (by omega);rcases stepAt k (by omega) with ⟨h3,h4⟩ | ⟨cells,ty,h3,h4⟩
   .grind
   .rw [h3,h4];refine ⟨hr.unborn _,he.trans ⟨B7.le_refl _,fun _ _=>rfl,BW _,fun b hb _ cs ty hm=>by grind [Zx],fun _ _ h _=>h,fun b l hb hl=>by have:=hr.dom b l hl;omega,An _,rfl,rfl,rfl,fun _ _=>rfl⟩⟩
 have later: ∀k k',(f (k+1)).next =(f k).next +1->k<k'->k'<=p->(f k).next <(f k').next /\Yi (f k').mem (f k).next =Yi (f (k+1)).mem (f k).next :=by
  intro k k' hk1 hk
  induction k' with
  | zero=>omega
  | succ k' ih=>
   intro hk';by_cases e:k=k'
   .grind
   .obtain ⟨h1,h2⟩:=ih (by omega) (by omega);rcases stepAt k' (by omega) with ⟨h3,h4⟩ | ⟨cells,ty,h3,h4⟩;all_goals grind [Zx]
 obtain ⟨hrp,hep⟩:=start p (An _);refine ⟨p,?_,hd,eI.size,?_,?_,hp,hpk,?_,hrp,hep,fun k q o x b ab _ hqp _ _ hx _ hc=>absurd hc (noch q x hqp hx),?_⟩
 .intro j o _ hs;grind
 .grind
 .intro t _;exact eI.get t
 .grind
 .intro k o hk ho hnw _;have hkp:k<p:=hpk k o hk ho hnw;obtain ⟨o',ho',s⟩:=g.step' (k:=k) hk;rw [ho] at ho';obtain rfl:=Ag ho';obtain ⟨cells,ty,h3,h4,_⟩:=s.fresh (g.ob _ (by omega)) hnw (g.chk.guard _ o ho hnw);obtain ⟨h5,h6⟩:=later k p h4 hkp (An _);have hge:st.next<=(f k).next :=by have:=g.next_le (a:=0) (b:=k) (AF _) (by omega);rw [g.f0] at this;exact this
  refine ⟨hge,h5,?_,h6⟩;cases e:ρ (f k).next with
  | none=>rfl
  | some l=>have:=eD.dom _ l e;omega
theorem y0c {S:B6} {R:CF} (hN:EJ P) (hS:Zv P S) (hRI:Ef R) (hR:GX P R) {st':St} (hcx:cx.floor<=st.next) (fA:Lj z ops=true)
  (h:P0 z P S R ops cx (I5 ops) [] st=some st') (ho:st'.ob=true) {ρ:B7} {a:Act} {w:World} (hd:a.defers=D) (eI:Vk ρ st.env cx.n a.tmps) (eD:B9 ρ st.mem st.next w):
  wpAny P .any ops (IV D ρ cx st st' w) ops.size (Array.replicate ops.size false) a w:=by
 obtain ⟨f,f0,fn,fs,_,fp⟩:=YG (I5 ops) [] st st' h;have eE:(I5 ops).length =ops.size:=by simp [I5,Xd]
 rw [eE] at fn;have fF: ∀(k:Nat) (hk:k<(Yp ops).length),cx.floor<=(f k).next ->W6 S z P ops cx (Dw ops (Yp ops)[k],ops.getD (Yp ops)[k] default) (f k) (f (k+1)):=by
  grind [I5,w8d]
 have hnx: ∀k,k<=ops.size->cx.floor<=(f k).next :=by
  intro k
  induction k with
  | zero=>grind
  | succ k ih=>intro hk;have hc:=ih (by omega);exact AN hc (fF k (by rw [Xd];omega) hc).inv.nxt
 have hob: ∀k,k<=ops.size->(f (ops.size - k)).ob =true:=by
  intro k
  induction k with
  | zero=>grind
  | succ k ih=>
   intro hk;have hk':ops.size - (k+1)<(Yp ops).length :=by rw [Xd];omega
   have s:=fF _ hk' (hnx _ (by omega));refine s.inv.ob ?_
   grind
 have g:DH S z P ops cx st f:=⟨X3 fA,f0,hcx,fun k hk=>by
  have:=hob (ops.size - k) (by omega);rwa [show ops.size - (ops.size - k)=k by omega] at this,fun k hk=>fF k hk (hnx k (by rw [Xd] at hk;omega)),fun q k hq hk=>by
   have:=fp q k hq (by grind [Xd]);simp_all [I5]⟩
 obtain ⟨p,I⟩:=v6y g hd eI eD;have:=u4q g eI.out eD.bd ops.size (Array.replicate ops.size false) p ρ a w (by simp) (by
  rw [List.countP_eq_length.2];all_goals simp_all) I
 grind
theorem x1f {S:B6} {R:CF} (hRI:Ef R): ∀(l:List (Bool×Oper)) (st st':St),W2 P S R ops cx l st=some st'->Xm cx.floor st st'
 | [],st,st',h=>by
  have h:some st=some st':=h
  grind [Xm.refl]
 | x::l,st,st',h=>by
  rw [y6x,Option.bind_eq_some_iff] at h;obtain ⟨st1,h1,h2⟩:=h;refine Xm.trans ?_ (x1f hRI l st1 st' h2);unfold HP at h1;split at h1
  .cases h1
  .rename_i st2 hw;obtain ⟨w1,w2,w3⟩:=Wf hw;refine (Xm.same w1 w2 fun h=>(w3 h).1).trans ?_;unfold Ln at h1;split at h1
   .split at h1
    .rename_i st3 ho;obtain ⟨_,e2,e3,e4⟩:=Ww ho;obtain ⟨p1,p2,p3,_⟩:=Vj h1;exact (Xm.same e2 e3 fun h=>(e4 h).2).trans (Xm.same p1 p2 fun h=>by rw [<-p3];exact h)
    .cases h1
   .split at h1
    .rename_i v st3 he;obtain ⟨p1,p2,p3,_⟩:=Vj h1;exact (y9l hRI he).1.trans (Xm.same p1 p2 fun h=>by rw [<-p3];exact h)
    .cases h1
  .rename_i st2 hw;obtain ⟨w1,w2,w3⟩:=Wf hw;obtain ⟨p1,p2,p3,_⟩:=Vj h1;exact (Xm.same w1 w2 fun h=>(w3 h).1).trans (Xm.same p1 p2 fun h=>by rw [<-p3];exact h)
theorem v3f {S:B6} {R:CF} (hRI:Ef R) {x:Bool×Oper} {st st':St} (h:Lv z P S R ops cx x st=some st'):Xm cx.floor st st':=by
 unfold Lv at h;cases hz:Lz z x.2.op with
 | false=>
  rw [hz,Ab] at h;cases hz2:isBirth z x.2.op with
  | true=>
   rw [hz2,Af] at h;split at h
   .cases h
   .rename_i st2 hw;obtain ⟨w1,w2,w3⟩:=Wf hw;unfold YS at h;split at h
    .split at h
     .obtain ⟨p1,p2,p3,_⟩:=Vj h;exact ((Xm.same w1 w2 fun h=>(w3 h).1).trans (Xm.new _ _ _)).trans (Xm.same p1 p2 fun h=>by grind)
     .cases h
    .cases h
   .rename_i st2 hw;obtain ⟨w1,w2,w3⟩:=Wf hw
    grind [Vj,Xm.same]
  | false=>rw [hz2,Ab] at h;exact x1f hRI [x] st st' (by rw [y6x,h];rfl)
 | true=>
  rw [hz,Af] at h;split at h
  .cases h
  .rename_i st2 hw;obtain ⟨w1,w2,w3⟩:=Wf hw
   grind [w2c,Vj,Xm.same]
  .rename_i st2 hw;obtain ⟨w1,w2,w3⟩:=Wf hw
   grind [Vj,Xm.same]
theorem y6y {S:B6} {R:CF} (hRI:Ef R) (l:List (Nat×Bool×Oper)) (acc:List D0) (st st':St) (h:P0 z P S R ops cx l acc st=some st'):Xm cx.floor st st':=by
 obtain ⟨f,f0,fn,fs,_,_⟩:=YG l acc st st' h;have: ∀k,k<=l.length->Xm cx.floor st (f k):=by
  intro k
  induction k with
  | zero=>intro _;rw [f0];exact Xm.refl _ _
  | succ k ih=>
   intro hk;refine (ih (by omega)).trans ?_
   grind [v3f]
 grind
end
section
variable {P:Program}
theorem x6p {H:Dv} {w:World} (hH: ∀k o,H k=some o->w.heap[k]? =some o) (hG:Glob H):B9 (DD H) .leaf 0 w:=
 ⟨(fun b l h=>by cases h),(fun b b' l l' h=>by cases h),(fun b l ab h=>by cases h),hH,(fun b l h=>by cases h),(fun b l h=>by cases h),(fun b _=>rfl),(fun j l h=>by cases h),hG⟩
structure Out (H:Dv) (w:World) (ρ:B7) (v:B3) (u:Value) (w':World):Prop where
 val:Zr ρ v u
 le: ∀k o,H k=some o->ρ.fz k=some o
 old: ∀k o,ρ.fz k=some o->w'.heap[k]? =some o
 same: ∀k,k<w.heap.size->ρ.fz k=H k
 below:RowKit.Below w.heap.size w w'
theorem NO {H:Dv} {w w':World} {ρ:B7} {v:B3} {u:Value} {mem:CD} {next floor:Nat} (hv:Zr ρ v u) (hr:B9 ρ mem next w') (hev:Ev (DD H) ρ floor .leaf 0 mem next w w'):Out H w ρ v u w':=
 ⟨hv,hev.ext.2.1,hr.old,hev.still,hev.os,hev.tape,hev.output,hev.size,fun k hk=>by
  have:w.heap[k]? =some w.heap[k]:=by simp [hk]
  rw [this];exact hev.frame k _ this fun b l hl=>by cases hl⟩
def Eo :B6:=fun _=>none
theorem Zq :Zv P Eo:=fun f F h=>by cases h
end
end Go.Am
end
