/- A part of a proof: several texts in one. -/
import Derived.Test.YtaccilioelkedaaNi0
import Derived.IntWalk
set_option maxRecDepth 1000000
set_option maxHeartbeats 8000000
set_option linter.unusedVariables false
set_option linter.unusedSimpArgs false
noncomputable section
namespace Go.Am
open IntKind (wrap)
section
variable {P:Program} {ρ:BB}
theorem Ws {t u e:TypeId} {ut:TypeDesc} {i:TypeInfo} {type:TypeId} (hu:P.underlying t=some (.slice e)) (hut:P.underlying u=some ut) (hni: ∀k,ut≠ .int k) (hi:P.info? e=some i) {ts:List TypeId} {base:Option Addr} {len n c:Nat} {x:Value} {vs:Array Value} {xs:List Value} {w:World}
  (aC:(Builtin.lenOf x).run P w=.ok n w) (aQ:(Builtin.firstCells i.size n x).run P w=.ok vs w) (aF:len+n<=c) {w':World}
  (hst: ∀a,base=some a->(storeCells (a.add (len*i.size)) vs.toList).run P w=.ok () w') (hno:base=none->w'=w):
  (Builtin.append_ (t::u::ts).toArray type ((.slice base len c)::x::xs).toArray).run P w=.ok (.slice base (len+n) c) w':=by
 cases base with
 | none=>obtain rfl:=hno rfl;simp [Builtin.append_,run_underlying hu,run_underlying hut,Zj hi,aC,aQ,aF]
 | some a=>have:=hst a rfl;simp [Builtin.append_,run_underlying hu,run_underlying hut,Zj hi,aC,aQ,aF,this]
theorem Wm {t u e:TypeId} {ut:TypeDesc} {i:TypeInfo} {type:TypeId} (hu:P.underlying t=some (.slice e)) (hut:P.underlying u=some ut) (hni: ∀k,ut≠ .int k) (hi:P.info? e=some i) {z:Value} (hz:i.zero=some z) {ts:List TypeId} {base:Option Addr} {len n c:Nat} {x:Value} {vs old:Array Value} {xs:List Value} {w:World}
  (aC:(Builtin.lenOf x).run P w=.ok n w) (aQ:(Builtin.firstCells i.size n x).run P w.drew=.ok vs w.drew) (hold:(Builtin.firstCells i.size len (.slice base len c)).run P w.drew=.ok old w.drew)
  (aF:c<len+n) (aZ:(len+n+1)*(i.bytes+1)<=1099511627776):
  ∃newCap,len+n<=newCap/\ ∃rest:Array Value,rest.size=(newCap - (len+n))*z.cells.size/\
  (Builtin.append_ (t::u::ts).toArray type ((.slice base len c)::x::xs).toArray).run P w=.ok (.slice (some ⟨w.heap.size,0,none⟩) (len+n) newCap) (w.drew.alloc (.cells (old++vs++rest) e)):=by
 have hmul:len+n+1<=(len+n+1)*(i.bytes+1):=Nat.le_mul_of_pos_right _ (by omega);have hr:=Gv aZ aF;have hr': ¬2 ^ 48<Builtin.nextslicecap (len+n) c*i.bytes:=hr;have hr'': ¬281474976710656<Builtin.nextslicecap (len+n) c*i.bytes:=hr;have h1: ¬len+n<=c:=by omega
 have h2: ¬(9223372036854775807<(len:Int)+(n:Int)):=by omega
 have hq:(Question.appendCap (len+n) c e).forced =false:=rfl;have hzero: ∀w,(zeroValue e).run P w=.ok z w:=fun w=>by simp [zeroValue,run_typeInfo w hi,hz]
 refine ⟨(Question.appendCap (len+n) c e).cut (w.tape w.drawn (Question.appendCap (len+n) c e)),by simp only [Question.cut];omega,Builtin.zeroCells z.cells ((Question.appendCap (len+n) c e).cut (w.tape w.drawn (Question.appendCap (len+n) c e)) - (len+n)),by simp [Builtin.zeroCells],?_⟩;have hty: ∀w,(typeInfo e).run P w=.ok i w:=fun w=>run_typeInfo w hi;simp [Builtin.append_,run_underlying hu,run_underlying hut,Zj hi,aC,h1,h2,hty,hr'',hq,aQ,hold,hzero,newRow]
theorem Yg.append {a b:List BA} {us vs:Array Value} (h:Yg ρ a us) (k:Yg ρ b vs):Yg ρ (a++b) (us++vs):=by
 refine ⟨by simp [h.1,k.1],fun i h1 h2=> ?_⟩;by_cases hi:i<a.length
 .rw [AZ hi,Array.getElem_append_left (by rw [<-h.1];exact hi)];exact h.2 i hi (by rw [<-h.1];exact hi)
 .rw [AX (by omega),Array.getElem_append_right (by rw [<-h.1];omega)];have e:=h.1;simp only [e];exact k.2 (i - us.size) (by grind) (by grind)
theorem Uv {st:St} {w:World} (h:BC ρ st.mem st.next w) (floor:Nat) {cs:List BA} {vs:Array Value} (hr:Yg ρ cs vs) (rest:Array Value) (ty el:TypeId) (v:BA) (u:Value)
  (aU: ∀ρ',ρ' st.next=some ⟨w.heap.size,0,cs.length,vs.size+rest.size⟩->Zp ρ' v u) (hel:el=ty:=by rfl):
  BU ρ floor st (Um st cs ty) v w (Yq ρ st.next ⟨w.heap.size,0,cs.length,vs.size+rest.size⟩) u (w.drew.alloc (.cells (vs++rest) el)):=by
 have hd:BC ρ st.mem st.next w.drew:=h.drawn _
 have:=Uw hd floor cs ty (vs++rest) el (by rw [hr.1];simp) (fun i h1 h2=>by
  rw [Array.getElem_append_left (by rw [<-hr.1];exact h1)];exact hr.2 i h1 (by rw [<-hr.1];exact h1)) v u (fun ρ' hρ'=>aU ρ' (by simp_all)) hel
 simp only [Array.size_append] at this;exact ⟨this.val,this.rel,this.ev.drawn⟩
theorem Xh {α:Type} {c:Bool} {x:Option α} {y:α} (h:(bif c then x else none)=some y):c=true/\x=some y:=by grind
structure Fg (P:Program) (ρ:BB) (t u e:TypeId) (i:TypeInfo) (z:Value) (ux:Value) (n:Nat) (new:List BA) (vs:Array Value) (w:World):Prop where
 rel:Yg ρ new vs
 hin: ∀{type:TypeId} {ts:List TypeId} {base:Option Addr} {len c:Nat} {xs:List Value},(n=0\/(n+1)*(i.bytes+1)<=1099511627776)->len+n<=c-> ∀{w':World},(∀a,base=some a->(storeCells (a.add (len*i.size)) vs.toList).run P w=.ok () w')->(base=none->w'=w)->
  (Builtin.append_ (t::u::ts).toArray type ((.slice base len c)::ux::xs).toArray).run P w=.ok (.slice base (len+n) c) w'
 hnew: ∀{type:TypeId} {ts:List TypeId} {base:Option Addr} {len c:Nat} {xs:List Value} {old:Array Value},(Builtin.firstCells i.size len (.slice base len c)).run P w.drew=.ok old w.drew->c<len+n->(len+n+1)*(i.bytes+1)<=1099511627776->
  ∃newCap,len+n<=newCap/\ ∃rest:Array Value,rest.size=(newCap - (len+n))*z.cells.size/\
   (Builtin.append_ (t::u::ts).toArray type ((.slice base len c)::ux::xs).toArray).run P w=.ok (.slice (some ⟨w.heap.size,0,none⟩) (len+n) newCap) (w.drew.alloc (.cells (old++vs++rest) e))
theorem Hf {n:Int} {bytes:Nat} (h0:0<=n) (h:n.toNat=0\/(n.toNat+1)*(bytes+1)<=1099511627776):IntKind.i64.wrap n=n/\n*(bytes:Int)<=281474976710656:=by
 grind [IntWalk.i64_in]
theorem Xz {mem:BI} {next:Nat} {w:World} (h:BC ρ mem next w) {t u e:TypeId} {ut:TypeDesc} {i:TypeInfo} {z:Value} {zero:List BA} {x:BA} {ux:Value} {n:Nat} {new:List BA} (hu:P.underlying t=some (.slice e)) (hut:P.underlying u=some ut) (hi:P.info? e=some i) (hz:i.zero=some z)
  (hzr:Yg ρ zero z.cells) (hzl:zero.length=i.size) (hc:Yo mem i.size zero ut x=some (n,new)) (hx:Zp ρ x ux) (hnl:new.length=n*i.size): ∃vs,Fg P ρ t u e i z ux n new vs w:=by
 unfold Yo at hc;split at hc
 .rename_i kt;split at hc
  .rename_i k m;obtain ⟨h0,hc⟩:=Xh hc;have h0:=AN h0;simp only [Ac,Aa] at hc;obtain ⟨rfl,rfl⟩:=hc;cases hx;have hzs:z.cells.size=i.size:=by rw [<-hzr.1];exact hzl
   refine ⟨Builtin.zeroCells z.cells m.toNat,?_,?_,?_⟩
   .exact Jc hzr m.toNat (m.toNat*z.cells.size) (by rw [hzr.1])
   .intro type ts base len c xs hr aF w' hst hno;obtain ⟨hw,hb⟩:=Hf h0 hr;have hb': ¬281474976710656<m*(i.bytes:Int):=(by omega);have hlt: ¬m<0:=(by omega);have hzv: ∀w,(zeroValue e).run P w=.ok z w:=fun w=>by simp [zeroValue,run_typeInfo w hi,hz]
    have hty: ∀w,(typeInfo e).run P w=.ok i w:=fun w=>run_typeInfo w hi;by_cases hz0:m.toNat*i.size=0
    .have hze:Builtin.zeroCells z.cells m.toNat= #[]:=(by simp [Builtin.zeroCells,hzs,hz0]);rw [hze] at hst;cases base with
     | none=>obtain rfl:=hno rfl;simp [Builtin.append_,run_underlying hu,run_underlying hut,Zj hi,asInt,asIntOf,hw,hlt,hty,hb',aF,hz0]
     | some a=>have:=hst a rfl;simp only [] at this;simp [Builtin.append_,run_underlying hu,run_underlying hut,Zj hi,asInt,asIntOf,hw,hlt,hty,hb',aF,hz0,this]
    .cases base with
     | none=>obtain rfl:=hno rfl;simp [Builtin.append_,run_underlying hu,run_underlying hut,Zj hi,asInt,asIntOf,hw,hlt,hty,hb',aF,hz0,hzv]
     | some a=>have:=hst a rfl;simp [Builtin.append_,run_underlying hu,run_underlying hut,Zj hi,asInt,asIntOf,hw,hlt,hty,hb',aF,hz0,hzv,this]
   .intro type ts base len c xs old hold aF aZ;have hr:m.toNat=0\/(m.toNat+1)*(i.bytes+1)<=1099511627776:=.inr (Ay (Ak _ (by omega)) aZ);obtain ⟨hw,hb⟩:=Hf h0 hr;have hb': ¬281474976710656<m*(i.bytes:Int):=(by omega);have hlt: ¬m<0:=(by omega);have hmul:len+m.toNat+1<=(len+m.toNat+1)*(i.bytes+1):=Nat.le_mul_of_pos_right _ (by omega);have hr0:=Gv aZ aF;have hr'': ¬281474976710656<Builtin.nextslicecap (len+m.toNat) c*i.bytes:=hr0;have h1: ¬len+m.toNat<=c:=(by omega);have h2: ¬(9223372036854775807<(len:Int)+(m.toNat:Int)):=(by omega);have h2': ¬(9223372036854775807<(len:Int)+max m 0):=(by omega);have hq:(Question.appendCap (len+m.toNat) c e).forced =false:=rfl;have hzv: ∀w,(zeroValue e).run P w=.ok z w:=fun w=>by simp [zeroValue,run_typeInfo w hi,hz]
    have hty: ∀w,(typeInfo e).run P w=.ok i w:=fun w=>run_typeInfo w hi;refine ⟨(Question.appendCap (len+m.toNat) c e).cut (w.tape w.drawn (Question.appendCap (len+m.toNat) c e)),by simp only [Question.cut];omega,Builtin.zeroCells z.cells ((Question.appendCap (len+m.toNat) c e).cut (w.tape w.drawn (Question.appendCap (len+m.toNat) c e)) - (len+m.toNat)),by simp [Builtin.zeroCells],?_⟩;by_cases hz0:m.toNat*i.size=0
    .have hze:Builtin.zeroCells z.cells m.toNat= #[]:=(by simp [Builtin.zeroCells,hzs,hz0]);simp [Builtin.append_,run_underlying hu,run_underlying hut,Zj hi,asInt,asIntOf,hw,hlt,hb',h1,h2,h2',hty,hr'',hq,hold,hzv,newRow,hz0,hze]
    .simp [Builtin.append_,run_underlying hu,run_underlying hut,Zj hi,asInt,asIntOf,hw,hlt,hb',h1,h2,h2',hty,hr'',hq,hold,hzv,newRow,hz0]
  .cases hc
 .rename_i hni';have hni: ∀k,ut≠ .int k:=fun k hk=>hni' k hk;obtain ⟨aC,aQ⟩:=Yp (P:=P) h hc hx hnl;obtain ⟨vs,hvs,hfc⟩:=aQ n (Ah _);rw [AL (by omega)] at hvs;have bR:(Builtin.firstCells i.size n ux).run P w=.ok vs w:=hfc w.drawn;have hfc1:(Builtin.firstCells i.size n ux).run P w.drew=.ok vs w.drew:=hfc (w.drawn+1);exact ⟨vs,hvs,fun _ aF _ hst hno=>Ws hu hut hni hi (aC w) bR aF hst hno,fun hold aF aZ=>Wm hu hut hni hi hz (aC w) hfc1 hold aF aZ⟩
theorem HS {w:World} {x:Obj} {n:Nat} {k:Nat} {o:Obj} (h:w.heap[k]? =some o):(World.alloc {w with drawn:=n} x).heap[k]? =some o:=by
 have:k<w.heap.size:=(Al.1 h).1;show (w.heap.push x)[k]? =some o
 grind
theorem Iz {w:World} {k:Nat} {cur:Array Value} {el:TypeId} {vs:List Value} {m:Nat} (hw:w.heap[k]? =some (.cells cur el (0,0))) (hm:m+vs.length<=cur.size):
  ∃cs1,(w.setRow k (cur.toList.take m++vs++cur.toList.drop (m+vs.length)).toArray).heap[k]? =some (.cells cs1 el (0,0))/\cs1.size=cur.size/\ ∀j,j<m->cs1[j]? =cur[j]? :=by
 have hc:cur.toList.length=cur.size:=AC;refine ⟨_,setRow_heap w k cur _ el (0,0) hw,by simp;omega,fun j hj=> ?_⟩
 grind
def GL (ρ:BB) (m:BI) (xs:List BA) (w w':World):Prop:=
 (∀(b off len z b2 o2 n2:Nat) (c2:Bj) (r:List BA) (blk:BG) (l:BM),xs=.sl b off len (.un z)::.sl b2 o2 n2 c2::r->1<=n2->Zb m b=some blk->off+len*z=blk.cells.length->ρ b=some l->Ya ρ w' blk l)/\
 ∀r:List BA,xs=.nils ::r-> ∀(k:Nat) (o:Obj),w.heap[k]? =some o->w'.heap[k]? =some o
theorem Iu {m:BI} {sz:Nat} {zero:List BA} {ut:TypeDesc} {b o n2:Nat} {c:Bj} {n:Nat} {new:List BA} (h:Yo m sz zero ut (.sl b o n2 c)=some (n,new)):n=n2:=by
 have key:Zd m sz (.sl b o n2 c)=some (n,new)->n=n2:=fun h=>by
  simp only [Zd] at h;cases hm:Zb m b with
  | none=>grind
  | some blk=>rw [hm] at h;obtain ⟨_,h⟩:=DI h;simp_all
 cases ut <;> first | exact key h | (cases h;done)
theorem Xi {st st' :St} {w:World} (h:BC ρ st.mem st.next w) (floor:Nat) {ts:Array TypeId} {type:TypeId} {xs:List BA} {us:Array Value} {v:BA} (ha:Wx P floor st ts.toList xs=some (v,st')) (hx:Yh (Zp ρ) xs us.toList) (hty:tyOk P st.mem ts.toList xs=true):
  ∃ρ' u w',(Builtin.append_ ts type us).run P w=.ok u w'/\BU ρ floor st st' v w ρ' u w'/\(st'.env=st.env/\st'.ob=st.ob)/\GL ρ st.mem xs w w':=by
 obtain ⟨ts⟩:=ts;obtain ⟨us⟩:=us;simp only at ha hx;unfold Wx at ha;split at ha
 .rename_i t tu tts s x txs;cases hx with
  | @cons _ su _ _ hs hx=>
   cases hx with
   | @cons _ ux _ uxs hx _=>
    split at ha
    .rename_i e ut hu hut;split at ha
     .rename_i i zero hi hz;split at ha
      .rename_i n new hcs;obtain ⟨i2,z,hi2,hz2,hzr,_⟩:=Yy (ρ:=ρ) hz;obtain rfl:i=i2:=by grind
       cases hc:(Nat.beq zero.length i.size&&Nat.beq new.length (n*i.size)&&Nat.ble 1 i.size&&new.all Kp) with
       | false=>grind
       | true =>
        rw [hc,Aq] at ha;simp only [Ag] at hc;obtain ⟨⟨⟨hzl,hnl⟩,hsz⟩,hsc⟩:=hc;have hzl:=Ae hzl;have hnl:=Ae hnl;have hsz:=Ad hsz;have hzs:z.cells.size=i.size:=by rw [<-hzr.1];exact hzl
        obtain ⟨vs,hF⟩:=Xz (P:=P) h hu hut hi hz2 hzr hzl hcs hx hnl;have hvs:=hF.rel;have hvsz:vs.size=n*i.size:=by rw [<-hvs.1];exact hnl
        have aP:=Zp.cells_oneCell hvs hsc;split at ha
        ·-- nil
         cases hs;cases hn0:Nat.beq n 0 with
         | true=>rw [hn0,Aq] at ha;simp only [Ac,Aa] at ha;obtain ⟨rfl,rfl⟩:=ha;have hn0:=Ae hn0;subst hn0;have aB:=hF.hin (type:=type) (ts:=tts) (base:=none) (len:=0) (c:=0) (xs:=uxs) (.inl rfl) (Ah _) (w':=w) (fun a e=>by cases e) (fun _=>rfl);exact ⟨ρ,_,w,aB,⟨.nils,h,Ev.refl _ _ _ _ _ h.dom⟩,⟨rfl,rfl⟩,(fun _ _ _ _ _ _ _ _ _ _ _ e=>by cases e),fun _ _ _ _ h=>h⟩
         | false=>
          rw [hn0,Ax] at ha;cases hrm:Nat.ble ((n+1)*(i.bytes+1)) B1 with
          | false=>grind
          | true=>
           rw [hrm,Aq] at ha;simp only [Ac,Aa] at ha;obtain ⟨rfl,rfl⟩:=ha;have hrm:=Ad hrm;have hnpos:0<n:=by
            grind
           obtain ⟨newCap,aH,rest,aR,aB⟩:=hF.hnew (type:=type) (ts:=tts) (base:=none) (len:=0) (c:=0) (xs:=uxs) (old:= #[]) (by simp [Builtin.firstCells]) (by omega) (by simpa [B1] using hrm);simp only [AQ,Array.empty_append] at aB aH aR;have hsum:vs.size+rest.size=newCap*i.size:=by rw [hvsz,aR,hzs,<-As];grind
           refine ⟨_,_,_,aB,Uv h floor hvs rest e e _ _ (fun ρ' hρ'=> ?_),⟨rfl,rfl⟩,(fun _ _ _ _ _ _ _ _ _ _ _ e=>by cases e),fun _ _ k o h=>HS h⟩;refine .sl _ 0 _ _ _ _ hρ' ?_ aH
           grind [Ww]
        ·-- a slice
         rename_i b off len cap;split at ha
         .rename_i blk hm;split at ha
          .rename_i old hold;cases hrm: !blk.isObj&&Nat.ble ((len+n+1)*(i.bytes+1)) B1 with
           | false=>grind
           | true =>
            rw [hrm,Aq] at ha;simp only [Ag,AB] at hrm;obtain ⟨hno,hrm⟩:=hrm;have hrm:=Ad hrm;have hrn:n=0\/(n+1)*(i.bytes+1)<=1099511627776:=.inr (Ay (Ak _ (by omega)) hrm);cases hs with
            | sl _ _ _ _ l c hρ aH hlc=>
             obtain ⟨hpold,holdl,holdle⟩:=Vk hold;have hblk:=(h.blk b l blk hρ hm).at hno;have hln:=hblk.n;have hmul:(len+n)*i.size=len*i.size+n*i.size:=As _ _ _;have hoff:off+len*i.size<=blk.cells.length\/len*i.size=0:=(by omega);have hcos:Zd st.mem i.size (.sl b off len cap)=some (len,old):=(by simp [Zd,hm,hold,hno]);obtain ⟨_,hfo⟩:=Yp (P:=P) h hcos (.sl b off len cap l c hρ aH hlc) holdl;obtain ⟨ovs,hovs,hof⟩:=hfo len (Ah _);rw [AL (by omega)] at hovs;have hovz:ovs.size=len*i.size:=by rw [<-hovs.1];exact holdl
             have hof1:(Builtin.firstCells i.size len (.slice (some ⟨l.blk,l.base+off,none⟩) len c)).run P w.drew=.ok ovs w.drew:=hof (w.drawn+1);have inplace: ∀v st',len+n<=c->floor<=b->off+(len+n)*i.size<=blk.cells.length->
               some (BA.sl b off (len+n) cap,st.withMem (Zt st.mem b (some ⟨blk.cells.take (off+len*i.size)++new++blk.cells.drop (off+(len+n)*i.size),blk.ty,none⟩)))=some (v,st')->(∀z,cap=.un z->z=i.size)->
               ∃ρ' u w',(Builtin.append_ (t::tu::tts).toArray type ((.slice (some ⟨l.blk,l.base+off,none⟩) len c)::ux::uxs).toArray).run P w=.ok u w'/\BU ρ floor st st' v w ρ' u w'/\(st'.env=st.env/\st'.ob=st.ob)/\GL ρ st.mem (.sl b off len cap::x::txs) w w':=by
              intro v st' aF hfl aJ he hzc;simp only [Ac,Aa] at he;obtain ⟨rfl,rfl⟩:=he;obtain ⟨cur,el,hw,hcsz,aA⟩:=h.write hρ hm (off:=off+len*i.size) (cs:=new) (vs:=vs.toList) hno (by grind) (by omega) (fun j h1 h2=>by simpa using hvs.2 j h1 (by grind));have hst:=run_storeCells_at P l.blk (l.base+off+len*i.size) el vs.toList 0 cur w hw (by grind) aP;rw [A8] at hst;have aB:=hF.hin (type:=type) (ts:=tts) (base:=some ⟨l.blk,l.base+off,none⟩) (len:=len) (c:=c) (xs:=uxs) hrn aF (w':=w.setRow l.blk (cur.toList.take (l.base+off+len*i.size)++vs.toList++cur.toList.drop (l.base+off+len*i.size+vs.toList.length)).toArray)
               (fun a e=>by cases e;rw [Zr];exact hst) (fun e=>by cases e)
              refine ⟨ρ,_,_,aB,⟨.sl _ _ _ _ l c hρ aH (by omega),?_,Ev.ofWrite h hρ hfl _ _⟩,⟨rfl,rfl⟩,(fun b' off' len' z b2 o2 n2 c2 r blk' l' e hn hm' hend hl'=> ?keep),fun _ e=>by cases e⟩
              case keep=>exfalso;cases e;obtain rfl:=hzc _ rfl;rw [hm] at hm';obtain rfl:=Ab hm';obtain rfl:=Iu hcs;have:1*i.size<=n*i.size:=Ak _ hn;omega
              have e1:off+len*i.size+new.length=off+(len+n)*i.size:=(by omega);rw [e1] at aA
              simpa only [St.withMem,AA] using aA
             have anew: ∀v st' (st1:St),c<len+n->BC ρ st1.mem st1.next w->Ev ρ ρ floor st.mem st.next st1.mem st1.next w w->st1.env=st.env->st1.ob=st.ob->
               some (BA.sl st1.next 0 (len+n) (.un i.size),Um st1 (old++new) e)=some (v,st')->
               ∃ρ' u w',(Builtin.append_ (t::tu::tts).toArray type ((.slice (some ⟨l.blk,l.base+off,none⟩) len c)::ux::uxs).toArray).run P w=.ok u w'/\BU ρ floor st st' v w ρ' u w'/\(st'.env=st.env/\st'.ob=st.ob)/\GL ρ st.mem (.sl b off len cap::x::txs) w w':=by
              intro v st' st1 aF aO hev1 aD hob he;simp only [Ac,Aa] at he;obtain ⟨rfl,rfl⟩:=he;obtain ⟨newCap,bS,rest,aR,aB⟩:=hF.hnew (type:=type) (ts:=tts) (base:=some ⟨l.blk,l.base+off,none⟩) (len:=len) (c:=c) (xs:=uxs) hof1 aF (by simpa [B1] using hrm);have hov:=hovs.append hvs;have hsum:(ovs++vs).size +rest.size=newCap*i.size:=by rw [Array.size_append,hovz,hvsz,aR,hzs,<-As,<-As];grind
              have hp:=Uv aO floor hov rest e e (.sl st1.next 0 (len+n) (.un i.size)) (.slice (some ⟨w.heap.size,0,none⟩) (len+n) newCap) (fun ρ' hρ'=>by
               refine .sl _ 0 _ _ _ _ hρ' ?_ bS
               grind [Ww])
              refine ⟨_,_,_,aB,⟨hp.val,hp.rel,hev1.trans hp.ev⟩,⟨?_,?_⟩,(fun b' off' len' z b2 o2 n2 c2 r blk' l' e hn hm' hend hl'=> ?keep),fun _ e=>by cases e⟩
              case keep=>have hq:=h.blk b' l' blk' hl' hm';refine hq.world (BB.le_refl ρ) ?_;obtain ⟨_,g1⟩:=hq.some;rw [g1];exact HS g1
              all_goals simp_all [Um]
             split at ha
             ·-- the capacity is known
              rename_i k;simp only [Ww] at aH;subst aH;cases hk:Nat.ble (len+n) c with
              | true=>
               rw [hk,Aq] at ha;have hk:=Ad hk;cases hf:(Nat.ble floor b&&Nat.ble (off+(len+n)*i.size) blk.cells.length) with
               | false=>grind
               | true=>rw [hf,Aq] at ha;simp_all
              | false=>
               rw [hk,Ax] at ha;have hk: ¬len+n<=c:=fun e=>by rw [Aw e] at hk;cases hk
               exact anew _ _ st (by omega) h (Ev.refl _ _ _ _ _ h.dom) rfl rfl ha
             ·-- it is not
              rename_i zz;simp only [Ww] at aH;cases hf:(Nat.beq zz i.size&&Nat.ble floor b) with
              | false=>grind
              | true=>
               rw [hf,Aq] at ha;simp only [Ag] at hf;have hzz:=Ae hf.1;have hfl:=Ad hf.2;subst hzz;cases hk:Nat.ble (off+(len+n)*i.size) blk.cells.length with
               | true=>
                rw [hk,Aq] at ha;have hk:=Ad hk;have aF:len+n<=c:=by rw [hln] at aH;have:(len+n)*i.size<=c*i.size:=(by omega);exact Nat.le_of_mul_le_mul_right this hsz
                grind
               | false=>
                rw [hk,Ax] at ha;cases hend:Nat.beq (off+len*i.size) blk.cells.length with
                | false=>grind
                | true=>
                 rw [hend,Aq] at ha;have hend:=Ae hend;by_cases aF:len+n<=c
                 ·-- there is B1: behind what is told
                  simp only [Ac,Aa] at ha;obtain ⟨rfl,rfl⟩:=ha;have hcm:(len+n)*i.size<=c*i.size:=Ak _ aF;obtain ⟨cur,el,hw,hcsz,aA⟩:=h.beyond hρ hm hno (off:=off) (new:=new) (vs:=vs.toList) e (by grind) (by omega) (by omega) (fun j h1 h2=>by simpa using hvs.2 j h1 (by grind)) (by simpa [tyOk,CL,hu,hm] using hty);have hst:=run_storeCells_at P l.blk (l.base+off+len*i.size) el vs.toList 0 cur w hw (by grind) aP;rw [A8] at hst;have aB:=hF.hin (type:=type) (ts:=tts) (base:=some ⟨l.blk,l.base+off,none⟩) (len:=len) (c:=c) (xs:=uxs) hrn aF (w':=w.setRow l.blk (cur.toList.take (l.base+off+len*i.size)++vs.toList++cur.toList.drop (l.base+off+len*i.size+vs.toList.length)).toArray)
                   (fun a e=>by cases e;rw [Zr];exact hst) (fun e=>by cases e)
                  have hod:old=blk.cells.drop off:=by rw [hpold];exact AL (by simp;omega)
                  refine ⟨_,_,_,aB,⟨.sl _ 0 _ _ ⟨l.blk,l.base+off,blk.cells.length - off+new.length,l.tot - off⟩ c (by simp [Yq]) ?_ (by omega),?_,Ev.ofBeyond h hρ hfl ⟨l.blk,l.base+off,blk.cells.length - off+new.length,l.tot - off⟩ rfl _ _⟩,⟨rfl,rfl⟩,(fun b' off' len' z b2 o2 n2 c2 r blk' l' e hn hm' _ hl'=> ?keep),fun _ e=>by cases e⟩
                  case keep=>
                   cases e;rw [hm] at hm';obtain rfl:=Ab hm';rw [hρ] at hl';obtain rfl:=Ab hl';obtain ⟨q0,q1,q2,q3,cs0,el0,q4,q5,q6⟩:=hblk;rw [hw] at q4;obtain ⟨rfl,rfl⟩:cur=cs0/\el=el0:=by
                    grind
                   obtain ⟨cs1,s1,s2,s3⟩:=Iz (vs:=vs.toList) hw (m:=l.base+off+len*i.size) (by grind);refine .plain ⟨by rw [s1];grind,q1,q2,q3,cs1,el,s1,by grind,fun k hk=> ?_⟩;obtain ⟨v,r1,r2⟩:=q6 k hk
                   grind
                  .simp only [Ww];omega
                  .rw [hod];have e2:l.base+off+len*i.size=l.base+blk.cells.length:=(by omega);rw [e2]
                   simpa only [Um,St.withMem] using aA
                 .exact anew _ _ (st.withMem (Zt st.mem b none)) (by omega) (h.kill b) (Ev.ofKill h floor hρ) rfl rfl ha
          .cases ha
         .cases ha
        .cases ha
      .cases ha
     .cases ha
    .cases ha
 .cases ha
theorem HI {get:Nat->List BA} {off len n sz N:Nat} {new:List BA} (hl: ∀i,i<N->(get i).length =sz) (hN:off+len=N) (hnew:new.length=n*sz):
  (∀i,i<len+n->(Wz get off len sz new i).length =sz)/\rows (len+n) (Wz get off len sz new)=((rows N get).drop (off*sz)).take (len*sz)++new:=by
 have h1: ∀i,i<len+n->(Wz get off len sz new i).length =sz:=fun i hi=>by
  unfold Wz;cases e:Nat.ble len i with
  | true=>
   have:=Ad e;simp only [Aq,List.length_take,List.length_drop,hnew];have:(i - len+1)*sz<=n*sz:=Ak sz (by omega)
   grind
  | false=>
   have: ¬len<=i:=fun h=>by rw [Aw h] at e;cases e
   grind
 refine ⟨h1,?_⟩;have aC:=Za (len+n) h1;have hlenN:=Za N hl;have hd:((rows N get).drop (off*sz)).length =len*sz:=by rw [List.length_drop,hlenN,<-hN,As];omega
 rw [AL (by omega)];apply A6;intro i;by_cases hi:i<(len+n)*sz
 .have hsz:0<sz:=by
   grind
  have hj:i %sz<sz:=A3 _ hsz;have hq:i / sz<len+n:=AJ (by grind);have e:i=i / sz*sz+i %sz:=by rw [A7];exact (AS i sz).symm
  generalize i / sz=q at*;generalize i %sz=j at*;subst e;rw [Yf (len+n) h1 q j hq hj];unfold Wz;cases e:Nat.ble len q with
  | true=>
   have hle:=Ad e;have:len*sz<=q*sz:=Ak sz hle;simp only [Aq];rw [List.getElem?_append_right (by omega),hd,List.getElem?_take,Ap hj,List.getElem?_drop]
   congr 1
   rw [Nat.sub_mul];omega
  | false=>
   have hlt:q<len:=by
    rcases AF q len with h | h
    .exact h
    .rw [Aw h] at e;cases e
   have:(q+1)*sz<=len*sz:=Ak sz hlt;rw [As,Nat.one_mul] at this;simp only [Ax];rw [List.getElem?_append_left (by omega),List.getElem?_drop,<-Yf N hl (off+q) j (by omega) hj]
   grind
 grind
theorem HH (n:Nat) (z:List BA):BP n z=rows n fun _=>z:=by unfold BP rows;rw [List.flatMap_def,List.map_const',List.length_range]
theorem Ev.remem {ρ':BB} {floor:Nat} {m m' m'':BI} {n n':Nat} {w w':World} (h:Ev ρ ρ' floor m n m' n' w w') (hm: ∀b,b<n-> ∀cs ty,Zb m b=some ⟨cs,ty,none⟩->Zb m'' b=Zb m' b):Ev ρ ρ' floor m n m'' n' w w':=
 ⟨h.ext,h.new,h.nxt,fun b hb e cs ty hc=>by rw [hm b hb cs ty hc];exact h.unborn b hb e cs ty hc,h.frame,h.fresh,h.size,h.os,h.tape,h.output,h.still⟩
theorem BC.remem {mem mem':BI} {next:Nat} {w:World} (h:BC ρ mem next w) (hm: ∀b,Zb mem' b=Zb mem b):BC ρ mem' next w:=
 ⟨h.dom,fun b b' l l' e e' he hs hs'=>h.inj b b' l l' e e' he (by grind) (by grind),fun b l ab e hc=>h.blk b l ab e (by grind),h.old,fun b l e hs=>h.sep b l e (by grind),h.real,fun b hb=>by rw [hm];exact h.bd b hb,h.ldom⟩
theorem Jn {cx:BK} {st st':St} {w:World} (h:BC ρ st.mem st.next w) {t:TypeId} {x y v:BA} {ux uy:Value} (hb:Xy P cx st t x y=some (v,st')) (hob:st'.ob=true) (hx:Zp ρ x ux) (hy:Zp ρ y uy):
  ∃ρ' u w',(Instr.makeSlice t ux uy).run P w=.ok u w'/\BU ρ cx.floor st st' v w ρ' u w':=by
 unfold Xy at hb;split at hb
 .rename_i e kl l kc c hu;split at hb
  .rename_i i zero hi hz;cases aW:(Nat.beq zero.length i.size&&Nat.ble 1 i.size) with
   | false=>grind
   | true=>
    rw [aW,Aq] at hb;simp only [Ag] at aW;obtain ⟨k1,k2⟩:=aW;have hzl:=Ae k1;simp only [Af,Aa] at hb;obtain ⟨st1,ho,rfl,rfl⟩:=hb;obtain ⟨o1,o2,o3,o4⟩:=Ut ho;obtain ⟨hc,_⟩:=o4 hob;have m2:st1.mem=Zt st.mem st.next (some ⟨rows c.toNat fun _=>zero,e,some ⟨i.size,c.toNat,.flat fun _=>zero⟩⟩):=o2
    have n2:st1.next=st.next+1:=o3
    have h0:Yn P st t (.int kl l) (.int kc c)=some (.sl st.next 0 l.toNat (.ex c.toNat),Um st (BP c.toNat zero) e):=by simp_all [Yn]
    obtain ⟨ρ',uv,w',aB,hp,_,_⟩:=Xe h cx.floor h0 hx hy;refine ⟨ρ',uv,w',aB,?_,?_,?_⟩
    .have hv:=hp.val;cases hv with
     | sl _ _ _ _ l' c' hρ' bS bQ=>
      have hbk:=hp.rel.blk st.next l' ⟨BP c.toNat zero,e,none⟩ hρ' (Zq _ _ _)
      have hcn:c'=c.toNat:=bS;have q1:=hbk.n;have q2:=hbk.tot;simp only [Wc,hzl] at q1;have:=Zp.sla (ρ:=ρ') st.next i.size 0 l.toNat (.un i.size) l' c' hρ' (by grind [Ww]) bQ
      grind
    .have hr:BC ρ' (Zt st.mem st.next (some ⟨BP c.toNat zero,e,none⟩)) (st.next+1) w':=hp.rel;rw [HH] at hr;rw [m2,n2];obtain ⟨_,_,_,_,hzr,_⟩:=Yy (ρ:=ρ) hz;exact hr.setArr ⟨i.size,c.toNat,_⟩ (Jy (ρ:=ρ) (fun v hv=>.inl (Yg.mem hzr v (Hu hv).choose_spec.2)) _ _) rfl (Ad k2) fun _ _=>hzl
    .rw [m2,n2];refine hp.ev.remem fun b' hb' cs ty hcs=> ?_;show _=Zb (Zt st.mem st.next _) b'
     grind [Zx]
  .cases hb
 .cases hb
theorem Ua {cx:BK} {st st':St} {w:World} (h:BC ρ st.mem st.next w) {ts:Array TypeId} {type:TypeId} {xs:List BA} {us:Array Value} {v:BA} (ha:Vg P cx st ts.toList xs=some (v,st')) (hob:st'.ob=true) (hx:Yh (Zp ρ) xs us.toList) (hty:tyOk P st.mem ts.toList xs=true):
  ∃ρ' u w',(Builtin.append_ ts type us).run P w=.ok u w'/\BU ρ cx.floor st st' v w ρ' u w'/\ ∀b sz off len z r blk l,xs=.sla b sz off len (.un z)::r->Zb st.mem b=some blk->ρ b=some l->Ya ρ w' blk l:=by
 obtain ⟨ul⟩:=us;simp only at hx;unfold Vg at ha;split at ha
 .rename_i t u tr b sz off len z x xr hts;split at ha
  .rename_i e ut hu hut;split at ha
   .cases ha
   .rename_i hni;split at ha
    .rename_i i hi;split at ha
     .rename_i n new zero blk hc hz hm;split at ha
      .rename_i A hA;cases aW:(Nat.beq zero.length i.size&&Nat.beq new.length (n*i.size)&&Nat.ble 1 i.size&&new.all Kp&&Nat.beq sz i.size&&Nat.beq z sz&&Nat.ble cx.floor b&&Nat.ble 1 n) with
       | false=>grind
       | true=>
        rw [aW,Aq] at ha;have hchk0:=aW;simp only [Ag] at aW;obtain ⟨⟨⟨⟨⟨⟨⟨k1,k2⟩,k3⟩,k4⟩,k5⟩,k6⟩,k7⟩,k8⟩:=aW;obtain rfl:=Ae k5;obtain rfl:=Ae k6;have hnl:=Ae k2;have hsz1:=Ad k3;have hfl:=Ad k7;have hn1:=Ad k8;simp only [Af,Aa] at ha;obtain ⟨st1,ho,rfl,rfl⟩:=ha;obtain ⟨o1,o2,o3,o4⟩:=Ut ho;obtain ⟨hb,_⟩:=o4 hob;simp only [Ag,An] at hb;obtain ⟨hAs,hfull,aF⟩:=hb;have hAs:=Ae hAs;have hbn:b<st.next:=by
         rcases AF b st.next with g | g
         .exact g
         .rw [h.bd b g] at hm;cases hm
        have m2:st1.mem=Zt (Zt st.mem b none) st.next (some ⟨rows (len+n) (Wz A.get off len i.size new),e,some ⟨i.size,len+n,Wz A.get off len i.size new⟩⟩):=o2
        have n2:st1.next=st.next+1:=o3
        cases hx with
        | cons ha0 hr=>
         cases ha0 with
         | sla _ _ _ _ _ l c hρ aH aC=>
          have hb0:=(h.blk b l blk hρ hm).rows hA;have hno:=hb0.noObj;obtain ⟨bF,bX,aM⟩:=hb0.arr A hA;rw [hAs] at aM;obtain ⟨q1,q2⟩:=HI (new:=new) aM hfull hnl;have hlenr:=Za A.n aM;have hmul:off*i.size+len*i.size=A.n*i.size:=(by grind);have hcut:cut blk.cells (off*i.size) (len*i.size)=some ((blk.cells.drop (off*i.size)).take (len*i.size)):=by
           unfold cut;simp only;rw [show Nat.beq ((blk.cells.drop (off*i.size)).take (len*i.size)).length (len*i.size)=true from by
            rw [Nat.beq_eq];simp [bF,hlenr];omega]
           rfl
          have hroom':Nat.ble ((len+n+1)*(i.bytes+1)) B1=true:=Aw aF;have hnot:Nat.ble (off*i.size+(len+n)*i.size) blk.cells.length=false:=by
           have:1*i.size<=n*i.size:=Ak _ hn1;cases g:Nat.ble (off*i.size+(len+n)*i.size) blk.cells.length with
           | false=>rfl
           | true=>
            have:=Ad g
            grind
          have hat:Nat.beq (off*i.size+len*i.size) blk.cells.length=true:=(by simp_all);have h0:Wx P cx.floor st ts.toList (.sl b (off*i.size) len (.un i.size)::x::xr)=some (.sl st.next 0 (len+n) (.un i.size),Um (st.withMem (Zt st.mem b none)) (((blk.cells.drop (off*i.size)).take (len*i.size))++new) e):=by
           rw [hts];unfold Wx;simp only [hu,hut,hi,hz]
           grind [Yo]
          obtain ⟨ρ',uv,w',aB,hp,_,hkeep⟩:=Xi (type:=type) h cx.floor h0 (us:=⟨_⟩) (.cons (.sl _ _ _ _ l c hρ aH aC) hr) (by rw [hts] at hty ⊢;simpa [tyOk,CL,hu,hm] using hty);refine ⟨ρ',uv,w',aB,⟨?_,?_,?_⟩,fun b' sz' off' len' z' r' blk' l' e hm' hl'=> ?_⟩
          rotate_left 3
          .injection e with e1 _;injection e1 with f1 _ _ _ _;subst f1;rw [hm] at hm';obtain rfl:=Ab hm';have hxs: ∃b2 o2 c2,x=.sl b2 o2 n c2:=by
            unfold Zd at hc;split at hc
            .grind
            .split at hc
             .obtain ⟨_,hc⟩:=DI hc;simp_all
             .cases hc
            .cases hc
           obtain ⟨b2,o2,c2,rfl⟩:=hxs;exact hkeep.1 _ _ _ _ _ _ _ _ _ _ _ rfl hn1 hm (by grind) hl'
          .have hv:=hp.val;cases hv with
           | sl _ _ _ _ l' c' hρ' bS bQ=>
            have:=Zp.sla (ρ:=ρ') st.next i.size 0 (len+n) (.un i.size) l' c' hρ' (by grind) bQ
            grind
          .have hr:=hp.rel;rw [m2,n2];have hr:BC ρ' (Zt (Zt st.mem b none) st.next (some ⟨((blk.cells.drop (off*i.size)).take (len*i.size))++new,e,none⟩)) (st.next+1) w':=hr;have bT:=Jy (ρ:=ρ) (cs:=((blk.cells.drop (off*i.size)).take (len*i.size))++new) (fun v hv=>(List.mem_append.1 hv).elim (fun k=>.inl (hb0.mem v (List.mem_of_mem_drop (List.mem_of_mem_take k)))) (fun k=>.inr (Ao.1 k4 v k))) e none;rw [bF,<-q2] at hr bT;exact hr.setArr ⟨i.size,len+n,_⟩ bT rfl hsz1 q1
          .rw [m2,n2];refine hp.ev.remem fun b' hb' cs ty hcs=> ?_;have hne:b'≠b:=fun e=>by grind
           show _=Zb (Zt (Zt st.mem b none) st.next _) b';rw [Zx _ _ (by omega),Zx _ _ hne,Zx _ _ (by omega),Zx _ _ hne]
         | slan=>
          have hq:=HI (get:=fun _=>List.replicate i.size BA.undef) (off:=0) (len:=0) (N:=0) (new:=new) (fun i hi=>absurd hi (Ar _)) rfl hnl;have hfe:Wz (fun _=>List.replicate i.size BA.undef) 0 0 i.size new=Wz A.get off 0 i.size new:=rfl;rw [hfe] at hq;obtain ⟨q1,q2⟩:=hq;have hn0:Nat.beq n 0=false:=by cases n with | zero=>omega | succ n=>rfl
          have hroom':Nat.ble ((n+1)*(i.bytes+1)) B1=true:=Aw (by grind);have h0:Wx P cx.floor st ts.toList (.nils ::x::xr)=some (.sl st.next 0 n (.un i.size),Um st new e):=by
           rw [hts];unfold Wx
           grind [Yo]
          obtain ⟨ρ',uv,w',aB,hp,_,hkeep⟩:=Xi (type:=type) h cx.floor h0 (us:=⟨_⟩) (.cons .nils hr) (by rw [hts];simp [tyOk,hu]);refine ⟨ρ',uv,w',aB,⟨?_,?_,?_⟩,fun b' sz' off' len' z' r' blk' l' e hm' hl'=> ?_⟩
          rotate_left 3
          .have hq:=h.blk b' l' blk' hl' hm';refine hq.world (BB.le_refl ρ) ?_;obtain ⟨_,g1⟩:=hq.some;rw [g1];exact hkeep.2 _ rfl _ _ g1
          .have hv:=hp.val;rw [AQ];cases hv with
           | sl _ _ _ _ l' c' hρ' bS bQ=>
            have:=Zp.sla (ρ:=ρ') st.next i.size 0 n (.un i.size) l' c' hρ' (by grind) bQ
            grind
          .have hr:BC ρ' (Zt st.mem st.next (some ⟨new,e,none⟩)) (st.next+1) w':=hp.rel;have hr:=hr.kill b;have hr:BC ρ' (Zt (Zt st.mem b none) st.next (some ⟨new,e,none⟩)) (st.next+1) w':=hr.remem fun b'=>by
            simp only [Yc];by_cases e1:b'=st.next
            .rw [Ap e1,Aj (by omega),Ap e1]
            simp_all
           rw [show new=rows (0+n) (Wz A.get off 0 i.size new) by rw [q2];simp] at hr;rw [m2,n2];have bT:=Hs k4 e none;rw [show new=rows (0+n) (Wz A.get off 0 i.size new) by rw [q2];simp] at bT;have:=hr.setArr ⟨i.size,0+n,Wz A.get off 0 i.size new⟩ bT rfl hsz1 q1;exact this
          .rw [m2,n2];refine hp.ev.remem fun b' hb' cs ty hcs=> ?_;have hne:b'≠b:=fun e=>by grind
           show _=Zb (Zt st.mem st.next _) b';rw [Zx _ _ (by omega),Zx _ _ hne,Zx _ _ (by omega)]
      .cases ha
     .cases ha
    .cases ha
  .cases ha
 .cases ha
theorem BC.ghost {mem:BI} {next:Nat} {w:World} (h:BC ρ mem next w) (o:Option BG):BC ρ (Zt mem next o) (next+1) w:=by
 have ne: ∀c l,ρ c=some l->c≠next:=fun c l e=>AM (h.dom c l e)
 refine ⟨fun c l e=>AE (h.dom c l e),fun c c' m m' e e' he hs hs'=> ?_,fun c m ac e hc=> ?_,h.old,fun c m e hs=> ?_,h.real,fun c hc=> ?_,⟨fun j l e=>AE (h.ldom.1 j l e),h.ldom.2⟩⟩
 .rw [Zx _ _ (ne _ _ e)] at hs;rw [Zx _ _ (ne _ _ e')] at hs';exact h.inj c c' m m' e e' he hs hs'
 .rw [Zx _ _ (ne _ _ e)] at hc;exact h.blk c m ac e hc
 .rw [Zx _ _ (ne _ _ e)] at hs;exact h.sep c m e hs
 .rw [Zx _ _ (by omega)];exact h.bd c (by omega)
theorem Ev.ghost {mem:BI} {next:Nat} {w:World} (h:BC ρ mem next w) (floor:Nat) (o:Option BG):Ev ρ ρ floor mem next (Zt mem next o) (next+1) w w where
 ext:=BB.le_refl _
 new _ _:=rfl
 nxt:=A9 _
 unborn k hk _ cs ty hm:=by grind [Zx]
 frame _ _ hk _:=hk
 fresh k m hk e:=by have:=h.dom k m e;omega
 size:=Ah _
 os:=rfl
 tape:=rfl
 output:=rfl
 still _ _:=rfl
theorem ID {mem:BI} {next:Nat} {w:World} (h:BC ρ mem next w) {n sz:Nat} {g:Nat->List BA} {ux:Value} (hx:Zp ρ (.dat n g) ux) (hg: ∀i,i<n->(g i).length =sz) (hsz:1<=sz):
  (∀w,(Builtin.lenOf ux).run P w=.ok n w)/\ ∃vs:Array Value,Yg ρ (rows n g) vs/\ ∀d,(Builtin.firstCells sz n ux).run P {w with drawn:=d}=.ok vs {w with drawn:=d}:=by
 cases hx with
 | datn=>exact ⟨fun w=>by simp [Builtin.lenOf], #[],⟨by simp [rows],fun i h1 h2=>by grind⟩,fun d=>by simp [Builtin.firstCells]⟩
 | datz=>exact ⟨fun w=>by simp [Builtin.lenOf], #[],⟨by simp [rows],fun i h1 h2=>by grind⟩,fun d=>by simp [Builtin.firstCells,loadCells,loadCellsFrom]⟩
 | dat _ _ blk base sz' cap val aH bY hv hh=>
  refine ⟨fun w=>by simp [Builtin.lenOf],?_⟩;have hl:=Za n hg;have hdiv: ∀k,k<n*sz->k / sz<n/\k %sz<sz/\k / sz*sz+k %sz=k:=fun k hk=>
   ⟨AJ (by grind),A3 _ hsz,by rw [A7];exact AS k sz⟩
  have hcell: ∀(d k:Nat),k<n*sz->({w with drawn:=d}:World).cell? ((⟨blk,base,none⟩:Addr).add k)=some (val (k / sz) (k %sz)):=by
   intro d k hk;obtain ⟨hq,hj,e4⟩:=hdiv k hk;have hs:sz'=sz:=by grind
   obtain ⟨cs,el,fz,e1,e2⟩:=hh (k / sz) (k %sz) hq (by omega);have e3:=h.old _ _ e1
   grind [Zr,World.cell?]
  refine ⟨_,⟨?_,?_⟩,fun d=>by simp only [Builtin.firstCells];exact run_loadCells _ _ _ (fun k=>val (k / sz) (k %sz)) (hcell d)⟩
  .simp [hl]
  .intro k h1 h2;obtain ⟨hq,hj,e4⟩:=hdiv k (by grind);have hj':k %sz<(g (k / sz)).length :=by grind
   have hr:=Yf n hg (k / sz) (k %sz) hq hj;rw [e4,Ai h1,Ai hj'] at hr;rw [Ab hr]
   simpa using (hv (k / sz) (k %sz) hq hj').mono (DO ρ)
theorem Uo {g:Nat->List BA} {p:BA->Bool} (n:Nat) (h: ∀i,i<n->(g i).all p=true):(rows n g).all p=true:=by
 grind [rows]
theorem Ve {get:Nat->List BA} {sz N off len:Nat} (hl: ∀i,i<N->(get i).length =sz) (h:off+len<=N):rows len (fun k=>get (off+k))=((rows N get).drop (off*sz)).take (len*sz):=by
 have h1: ∀k,k<len->(get (off+k)).length =sz:=fun k hk=>hl _ (by omega);have hL:=Za len h1;have hN:=Za N hl;have hm:(off+len)*sz<=N*sz:=Ak _ h;rw [As] at hm;apply A6;intro i;by_cases hi:i<len*sz
 .have hsz:0<sz:=by
   grind
  have hj:i %sz<sz:=A3 _ hsz;have hq:i / sz<len:=AJ (by grind);have e:i / sz*sz+i %sz=i:=by rw [A7];exact AS i sz
  have a1:=Yf len h1 (i / sz) (i %sz) hq hj;have a2:=Yf N hl (off+i / sz) (i %sz) (by omega) hj
  grind
 grind
theorem JA (s:List UInt8):rows s.length (F8 s)=s.map fun b=>BA.int .u8 b.toNat:=by
 unfold rows F8;rw [<-List.map_eq_flatMap];refine List.ext_getElem (by simp) fun i h1 h2=> ?_;have hi:i<s.length:=by simpa using h2
 simp only [List.getElem_map,List.getElem_range];unfold D0;rw [List.getD_eq_getElem?_getD,Ai hi];rfl
theorem J1 {mem:BI} {next:Nat} {w:World} (h:BC ρ mem next w) {t u e:TypeId} {ut:TypeDesc} {i:TypeInfo} {z:Value} {zero:List BA} {x:BA} {ux:Value} {n:Nat} {g:Nat->List BA} {o:Bool} (hu:P.underlying t=some (.slice e)) (hut:P.underlying u=some ut) (hi:P.info? e=some i) (hz:i.zero=some z)
  (hzr:Yg ρ zero z.cells) (hzl:zero.length=i.size) (hzs:zero.all Kp=true) (hsz:1<=i.size) (hc:Fe mem i.size zero ut x=some (n,g,o)) (ho:o=true) (hx:Zp ρ x ux):
  (∀k,k<n->(g k).length =i.size)/\ ∃vs,Fg P ρ t u e i z ux n (rows n g) vs w/\ ∀v∈vs.toList,v.oneCell'=true:=by
 subst ho;unfold Fe at hc;split at hc
 .rename_i k m;split at hc
  .rename_i kt;simp only [Ac,Aa] at hc;obtain ⟨rfl,rfl,h0⟩:=hc;have hcs:Yo mem i.size zero (.int kt) (.int k m)=some (m.toNat,BP m.toNat zero):=by
    grind [Yo]
   obtain ⟨vs,hF⟩:=Xz (P:=P) (u:=u) (t:=t) h hu hut hi hz hzr hzl hcs hx (by rw [Wc,hzl]);rw [HH] at hF;exact ⟨fun _ _=>hzl,vs,hF,Zp.cells_oneCell hF.rel (Uo _ fun _ _=>hzs)⟩
  .cases hc
 .rename_i nn gg;split at hc
  .cases hc
  .rename_i hni;simp only [Ac,Aa] at hc;obtain ⟨rfl,rfl,h0⟩:=hc;have hp:=Kf h0;obtain ⟨aC,vs,hvs,hfc⟩:=ID (P:=P) h hx (fun i hi=>(hp i hi).1) hsz;have bR:(Builtin.firstCells i.size nn ux).run P w=.ok vs w:=hfc w.drawn;have hfc1:(Builtin.firstCells i.size nn ux).run P w.drew=.ok vs w.drew:=hfc (w.drawn+1);exact ⟨fun i hi=>(hp i hi).1,vs,⟨hvs,fun _ aF _ hst hno=>Ws hu hut (fun k e=>hni k e) hi (aC w) bR aF hst hno,fun hold aF aZ=>Wm hu hut (fun k e=>hni k e) hi hz (aC w) hfc1 hold aF aZ⟩,
    Zp.cells_oneCell hvs (Uo _ fun i hi=>(hp i hi).2)⟩
 .split at hc
  .cases hc
  .rename_i hni;simp only [Ac,Aa] at hc;obtain ⟨rfl,rfl,_⟩:=hc;have hcs:Yo mem i.size zero ut .nils =some (0,[]):=by
    unfold Yo;split
    .grind
    .rfl
   obtain ⟨vs,hF⟩:=Xz (P:=P) (u:=u) (t:=t) h hu hut hi hz hzr hzl hcs hx (by simp);exact ⟨fun k hk=>absurd hk (Ar _),vs,hF,Zp.cells_oneCell hF.rel rfl⟩
 .rename_i b zz off len0 cap;split at hc
  .cases hc
  .rename_i hni;split at hc
   .rename_i cells ty A hm;simp only [Ac,Aa,Ag,An] at hc;obtain ⟨rfl,rfl,h1,h2,aJ,h4⟩:=hc;have hp:=Kf h4;have h1:=Ae h1;have h2:=Ae h2;subst h1;have nc: ∀v,Yo mem i.size zero ut v=Zd mem i.size v:=fun v=>by
     grind [Yo]
    cases hx with
    | sla _ _ _ _ _ l c hρ aH hlc=>
     obtain ⟨bF,bX,aM⟩:=(h.blk b l _ hρ hm).arr A rfl;rw [h2] at aM;simp only at bF;have hrp:=Ve aM aJ;have hlr:=Za A.n aM;have hm2:(off+len0)*i.size<=A.n*i.size:=Ak _ aJ;rw [As] at hm2;have aC:((cells.drop (off*i.size)).take (len0*i.size)).length =len0*i.size:=by
      grind
     have hcut:cut cells (off*i.size) (len0*i.size)=some ((cells.drop (off*i.size)).take (len0*i.size)):=by simp_all [cut]
     have hcs:Yo mem i.size zero ut (.sl b (off*i.size) len0 (.ex c))=some (len0,(cells.drop (off*i.size)).take (len0*i.size)):=by have hno:(⟨cells,ty,some A⟩:BG).isObj =false:=((h.blk b l _ hρ hm).rows rfl).noObj;rw [nc];simp [Zd,hm,hcut,hno]
     obtain ⟨vs,hF⟩:=Xz (P:=P) (u:=u) (t:=t) h hu hut hi hz hzr hzl hcs (.sl b (off*i.size) len0 (.ex c) l c hρ rfl hlc) aC;rw [bF,<-hrp] at hF;exact ⟨fun k hk=>(hp k hk).1,vs,hF,Zp.cells_oneCell hF.rel (Uo _ fun k hk=>(hp k hk).2)⟩
    | slan=>
     have hcs:Yo mem i.size zero ut .nils =some (0,[]):=by rw [nc];rfl
     obtain ⟨vs,hF⟩:=Xz (P:=P) (u:=u) (t:=t) h hu hut hi hz hzr hzl hcs .nils (by simp);exact ⟨fun k hk=>absurd hk (Ar _),vs,hF,Zp.cells_oneCell hF.rel rfl⟩
   .cases hc
 .rename_i s;split at hc
  .obtain ⟨hs1,hc⟩:=Xh hc;have hs1:=Ae hs1;simp only [Ac,Aa] at hc;obtain ⟨rfl,rfl,_⟩:=hc;cases hx;have hvs:Yg ρ (rows s.length (F8 s)) (s.map fun b=>Value.int .u8 b.toNat).toArray :=by rw [JA];refine ⟨by simp,fun j h1 h2=> ?_⟩;simp only [List.getElem_map,List.getElem_toArray];exact .int _ _
   have hl: ∀w,(Builtin.lenOf (.string ⟨s.toArray⟩)).run P w=.ok s.length w:=fun w=>by simp [Builtin.lenOf,<-ByteArray.size_data]
   have hfc: ∀w,(Builtin.firstCells i.size s.length (.string ⟨s.toArray⟩)).run P w=.ok (s.map fun b=>Value.int .u8 b.toNat).toArray w:=fun w=>by simp [Builtin.firstCells,ByteArray.data_extract]
   exact ⟨fun k hk=>hs1.symm,_,⟨hvs,fun _ aF _ hst hno=>Ws hu hut (fun k e=>by cases e) hi (hl w) (hfc w) aF hst hno,fun hold aF aZ=>Wm hu hut (fun k e=>by cases e) hi hz (hl w) (hfc _) hold aF aZ⟩,
    Zp.cells_oneCell hvs (Uo _ fun i hi=>rfl)⟩
  .cases hc
 .cases hc
def GK (P:Program) (ρ:BB) (floor:Nat) (mem mem':BI) (next:Nat) (sz:Nat) (e:TypeId) (N:Nat) (G:Nat->List BA) (w:World) (r:World->Result Value):Prop:=
 ∃ρ' u w',r w=.ok u w'/\Zp ρ' (.sla next sz 0 N (.un sz)) u/\BC ρ' (Zt mem' next (some ⟨rows N G,e,some ⟨sz,N,G⟩⟩)) (next+1) w'/\Ev ρ ρ' floor mem next (Zt mem' next (some ⟨rows N G,e,some ⟨sz,N,G⟩⟩)) (next+1) w w'
theorem Qc {mem:BI} {next:Nat} {w:World} (h:BC ρ mem next w) (floor:Nat) {t u e:TypeId} {type:TypeId} {ts:List TypeId} {xs:List Value} {i:TypeInfo} {z ux:Value} {n:Nat} {new:List BA} {vs:Array Value} (hF:Fg P ρ t u e i z ux n new vs w)
  (aP: ∀v∈vs.toList,v.oneCell'=true) (hnl:new.length=n*i.size) (hzs:z.cells.size=i.size) (hsz:1<=i.size) {len c off b:Nat} {l:BM} {blk:BG} (hrm:(len+n+1)*(i.bytes+1)<=B1)
  (hρ:ρ b=some l) (hm:Zb mem b=some blk) (hno:blk.isObj=false) (hfl:floor<=b) (hoff:off+len*i.size<=blk.cells.length) (hlc:len<=c) (aH:(l.n<=off+c*i.size/\off+c*i.size<=l.tot)\/c<=len)
  {G:Nat->List BA} (hG:rows (len+n) G=(blk.cells.drop off).take (len*i.size)++new) (hGl: ∀k,k<len+n->(G k).length =i.size) (htyb:blk.ty=e):
  GK P ρ floor mem (Zt mem b none) next i.size e (len+n) G w fun w=>(Builtin.append_ (t::u::ts).toArray type ((.slice (some ⟨l.blk,l.base+off,none⟩) len c)::ux::xs).toArray).run P w:=by
 have hvs:=hF.rel;have hvsz:vs.size=n*i.size:=by rw [<-hvs.1];exact hnl
 have hbk:=(h.blk b l blk hρ hm).at hno;have hln:=hbk.n;have htot:=hbk.tot;have hmul:(len+n)*i.size=len*i.size+n*i.size:=As _ _ _;have hcut:cut blk.cells off (len*i.size)=some ((blk.cells.drop off).take (len*i.size)):=by unfold cut;simp only;rw [show Nat.beq ((blk.cells.drop off).take (len*i.size)).length (len*i.size)=true from by rw [Nat.beq_eq];simp;omega];rfl
 have hcos:Zd mem i.size (.sl b off len (.ex c))=some (len,(blk.cells.drop off).take (len*i.size)):=by simp [Zd,hm,hcut,hno]
 have holdl:((blk.cells.drop off).take (len*i.size)).length =len*i.size:=by simp;omega
 obtain ⟨_,hfo⟩:=Yp (P:=P) h hcos (.sl b off len (.ex c) l c hρ rfl hlc) holdl;obtain ⟨ovs,hovs,hof⟩:=hfo len (Ah _);rw [AL (by omega)] at hovs;have hovz:ovs.size=len*i.size:=by rw [<-hovs.1];exact holdl
 have hof1:(Builtin.firstCells i.size len (.slice (some ⟨l.blk,l.base+off,none⟩) len c)).run P w.drew=.ok ovs w.drew:=hof (w.drawn+1);have hrn:n=0\/(n+1)*(i.bytes+1)<=1099511627776:=.inr (Ay (Ak _ (by omega)) hrm);have bT:(⟨rows (len+n) G,e,none⟩:BG).isObj =false:=by rw [hG];exact Jy (fun v hv=>.inl (Yg.mem (hovs.append hvs) v hv)) _ _
 by_cases aF:len+n<=c
 ·-- there is B1
  have hcm:(len+n)*i.size<=c*i.size:=Ak _ aF;obtain ⟨T,t1,t2,t3⟩: ∃T,off+len*i.size - off+new.length<=T/\off+T<=l.tot/\c*i.size<=T:=by
   rcases aH with ⟨c1,c2⟩ | c1
   .exact ⟨l.tot - off,by omega,by omega,by omega⟩
   .have:n=0:=(by omega);subst this;have:c=len:=(by omega);subst this;exact ⟨c*i.size,by omega,by omega,by omega⟩
  obtain ⟨cur,el,hw,hcsz,aA⟩:=h.beyond2 hρ hm hno (off:=off) (m:=off+len*i.size) (T:=T) (new:=new) (vs:=vs.toList) e (by grind) (by omega) hoff t1 t2 (fun j h1 h2=>by simpa using hvs.2 j h1 (by grind)) htyb;have hst:=run_storeCells_at P l.blk (l.base+off+len*i.size) el vs.toList 0 cur w hw (by grind) aP;rw [A8] at hst;have aB:=hF.hin (type:=type) (ts:=ts) (base:=some ⟨l.blk,l.base+off,none⟩) (len:=len) (c:=c) (xs:=xs) hrn aF (w':=w.setRow l.blk (cur.toList.take (l.base+off+len*i.size)++vs.toList++cur.toList.drop (l.base+off+len*i.size+vs.toList.length)).toArray)
   (fun a e=>by cases e;rw [Zr];exact hst) (fun e=>by cases e)
  have hdt:(blk.cells.take (off+len*i.size)).drop off=(blk.cells.drop off).take (len*i.size):=by
   grind
  rw [hdt,<-hG,<-AA] at aA;refine ⟨_,_,_,aB,?_,aA.setArr ⟨i.size,len+n,G⟩ bT rfl hsz hGl,?_⟩
  .have:=Zp.sla (ρ:=Yq ρ next ⟨l.blk,l.base+off,off+len*i.size - off+new.length,T⟩) next i.size 0 (len+n) (.un i.size) ⟨l.blk,l.base+off,off+len*i.size - off+new.length,T⟩ c (by simp [Yq])
    (by grind [Ww]) (by omega)
   grind
  grind [Ev.ofBeyond]
 ·-- a new row
  let st:St:=⟨.leaf,mem,next,[],true⟩
  have aO:BC ρ (st.withMem (Zt mem b none)).mem (st.withMem (Zt mem b none)).next w:=h.kill b
  obtain ⟨newCap,bS,rest,aR,aB⟩:=hF.hnew (type:=type) (ts:=ts) (base:=some ⟨l.blk,l.base+off,none⟩) (len:=len) (c:=c) (xs:=xs) hof1 (by omega) (by simpa [B1] using hrm);have hov:=hovs.append hvs;have hsum:(ovs++vs).size +rest.size=newCap*i.size:=by rw [Array.size_append,hovz,hvsz,aR,hzs,<-As,<-As];grind
  have hp:=Uv aO floor hov rest e e (.sla next i.size 0 (len+n) (.un i.size)) (.slice (some ⟨w.heap.size,0,none⟩) (len+n) newCap) (fun ρ' hρ'=>by
   have:=Zp.sla (ρ:=ρ') next i.size 0 (len+n) (.un i.size) _ newCap hρ' (by
    grind [Ww]) bS
   grind)
  rw [<-hG] at hp;refine ⟨Yq ρ next ⟨w.heap.size,0,(rows (len+n) G).length,(ovs++vs).size +rest.size⟩,_,_,aB,hp.val,?_,?_⟩
  .exact BC.setArr hp.rel ⟨i.size,len+n,G⟩ bT rfl hsz hGl
  .refine ((Ev.ofKill h floor hρ).trans hp.ev).remem fun b' hb' cs ty hcs=> ?_;have hne: ¬b'=next:=AM hb'
   show Zb (Zt (Zt mem b none) next _) b'=Zb (Zt (Zt mem b none) next _) b';simp only [Yc,Aj hne]
theorem HP {mem:BI} {next:Nat} {w:World} (h:BC ρ mem next w) (floor:Nat) {t u e:TypeId} {type:TypeId} {ts:List TypeId} {xs:List Value} {i:TypeInfo} {z ux:Value} {n:Nat} {new:List BA} {vs:Array Value} (hF:Fg P ρ t u e i z ux n new vs w)
  (hnl:new.length=n*i.size) (hzs:z.cells.size=i.size) (hsz:1<=i.size) (hrm:(0+n+1)*(i.bytes+1)<=B1) {G:Nat->List BA} (hG:rows (0+n) G=new) (hGl: ∀k,k<0+n->(G k).length =i.size):
  GK P ρ floor mem mem next i.size e (0+n) G w fun w=>(Builtin.append_ (t::u::ts).toArray type ((.slice none 0 0)::ux::xs).toArray).run P w:=by
 have hvs:=hF.rel;have hvsz:vs.size=n*i.size:=by rw [<-hvs.1];exact hnl
 rcases Nat.eq_zero_or_pos n with hn0 | hnpos
 .subst hn0;have aB:=hF.hin (type:=type) (ts:=ts) (base:=none) (len:=0) (c:=0) (xs:=xs) (.inl rfl) (Ah _) (w':=w) (fun a e=>by cases e) (fun _=>rfl);exact ⟨ρ,_,w,aB,.slan _ _ _ _,h.ghost _,Ev.ghost h floor _⟩
 .obtain ⟨newCap,aH,rest,aR,aB⟩:=hF.hnew (type:=type) (ts:=ts) (base:=none) (len:=0) (c:=0) (xs:=xs) (old:= #[]) (by simp [Builtin.firstCells]) (by omega) (by simpa [B1] using hrm);have e0:(#[]:Array Value)++vs=vs:=by simp
  rw [e0] at aB;have hsum:vs.size+rest.size=newCap*i.size:=by rw [hvsz,aR,hzs,<-As];grind
  let st:St:=⟨.leaf,mem,next,[],true⟩
  have aO:BC ρ st.mem st.next w:=h
  have hp:=Uv aO floor hvs rest e e (.sla next i.size 0 (0+n) (.un i.size)) (.slice (some ⟨w.heap.size,0,none⟩) (0+n) newCap) (fun ρ' hρ'=>by
   have:=Zp.sla (ρ:=ρ') next i.size 0 (0+n) (.un i.size) _ newCap hρ' (by
    grind [Ww]) aH
   grind)
  rw [<-hG] at hp;refine ⟨Yq ρ next ⟨w.heap.size,0,(rows (0+n) G).length,vs.size+rest.size⟩,_,_,aB,hp.val,BC.setArr hp.rel ⟨i.size,0+n,G⟩ (by rw [hG];exact Jy (fun v hv=>.inl (Yg.mem hvs v hv)) _ _) rfl hsz hGl,?_⟩
  .refine hp.ev.remem fun b' hb' cs ty hcs=> ?_;have hne: ¬b'=next:=AM hb'
   show Zb (Zt mem next _) b'=Zb (Zt mem next _) b';simp only [Yc,Aj hne]
theorem Xj {α β:Type} {f g:α->List β}: ∀{l:List α},(∀a,a∈l->f a=g a)->l.flatMap f=l.flatMap g
 | [],_=>rfl
 | a::l,h=>by rw [List.flatMap_cons,List.flatMap_cons,h a (by simp),Xj fun b hb=>h b (by simp [hb])]
theorem Kd {get g:Nat->List BA} {len n sz:Nat} (hl: ∀i,i<len->(get i).length =sz) (hg: ∀i,i<n->(g i).length =sz):
  (∀i,i<len+n->(Wh get len g i).length =sz)/\rows (len+n) (Wh get len g)=rows len get++rows n g:=by
 have h1: ∀i,i<len+n->(Wh get len g i).length =sz:=fun i hi=>by
  unfold Wh;cases e:Nat.ble len i with
  | true=>
   have:=Ad e
   grind
  | false=>
   have: ¬len<=i:=fun h=>by rw [Aw h] at e;cases e
   grind
 refine ⟨h1,?_⟩;unfold rows;rw [List.range_add,List.flatMap_append]
 congr 1
 .refine Xj fun i hi=> ?_;have:=At.1 hi;unfold Wh;rw [show Nat.ble len i=false from AV.2 fun e=>by have:=Ad e;omega];rfl
 .rw [List.flatMap_map];refine Xj fun i hi=> ?_;unfold Wh;rw [show Nat.ble len (len+i)=true from Aw (Nat.le_add_right _ _),Aq,Nat.add_sub_cancel_left]
theorem Iy {sz:Nat}: ∀(n:Nat) (l:List BA),l.length=n*sz->rows n (fun k=>(l.drop (k*sz)).take sz)=l/\ ∀k,k<n->((l.drop (k*sz)).take sz).length =sz:=by
 intro n l hl;have h1: ∀k,k<n->((l.drop (k*sz)).take sz).length =sz:=fun k hk=>by
  have:(k+1)*sz<=n*sz:=Ak _ hk
  grind
 refine ⟨?_,h1⟩;have aC:=Za n h1;apply A6;intro i;by_cases hi:i<n*sz
 .have hsz:0<sz:=by
   grind
  have hj:i %sz<sz:=A3 _ hsz;have hq:i / sz<n:=AJ (by grind);have e:i / sz*sz+i %sz=i:=by rw [A7];exact AS i sz
  grind [Yf]
 grind
theorem J2 {cx:BK} {st st':St} {w:World} (h:BC ρ st.mem st.next w) {ts:Array TypeId} {type:TypeId} {xs:List BA} {us:Array Value} {v:BA} (ha:Xn P cx st ts.toList xs=some (v,st')) (hob:st'.ob=true) (hx:Yh (Zp ρ) xs us.toList) (hty:tyOk P st.mem ts.toList xs=true):
  ∃ρ' u w',(Builtin.append_ ts type us).run P w=.ok u w'/\BU ρ cx.floor st st' v w ρ' u w':=by
 obtain ⟨ts⟩:=ts;obtain ⟨us⟩:=us;simp only at ha hx;unfold Xn at ha;split at ha
 .rename_i t tu tts s x txs;cases hx with
  | @cons _ su _ _ hs hx=>
   cases hx with
   | @cons _ ux _ uxs hx _=>
    split at ha
    .rename_i e ut hu hut;split at ha
     .rename_i i zero hi hz;split at ha
      .rename_i b len get o1 n g o2 ht hc;obtain ⟨i2,z,hi2,hz2,hzr,_⟩:=Yy (ρ:=ρ) hz;obtain rfl:i=i2:=by grind
       obtain ⟨aW,ha⟩:=Xh ha;simp only [Ag] at aW;obtain ⟨⟨⟨hzl,hzsc⟩,hsz⟩,hfl⟩:=aW;have hzl:=Ae hzl;have hsz:=Ad hsz;have hzs:z.cells.size=i.size:=by rw [<-hzr.1];exact hzl
       simp only [Af,Aa] at ha;obtain ⟨st1,ho,rfl,rfl⟩:=ha;obtain ⟨_,m2,n2,o4⟩:=Ut ho;obtain ⟨hb,_⟩:=o4 hob;simp only [Ag,An] at hb;obtain ⟨hb1,hb2,hrm⟩:=hb;have m2:st1.mem=Zt (CY st.mem b) st.next (some ⟨rows (len+n) (Wh get len g),e,some ⟨i.size,len+n,Wh get len g⟩⟩):=m2
       have n2:st1.next=st.next+1:=n2
       obtain ⟨hgl,vs,hF,aP⟩:=J1 (P:=P) (u:=tu) (t:=t) h hu hut hi hz2 hzr hzl hzsc hsz hc hb2 hx.unN;have hnl:=Za n hgl
       suffices GK P ρ cx.floor st.mem (CY st.mem b) st.next i.size e (len+n) (Wh get len g) w fun w=>(Builtin.append_ (t::tu::tts).toArray type (su::ux::uxs).toArray).run P w by obtain ⟨ρ',u,w',aB,hv,hr,hev⟩:=this;exact ⟨ρ',u,w',aB,hv,by grind,by grind⟩
       unfold Uz at ht;split at ht
       .simp only [Ac,Aa] at ht;obtain ⟨rfl,rfl,rfl,_⟩:=ht;cases hs;obtain ⟨q1,q2⟩:=Kd (get:=fun _=>[]) (len:=0) (fun i hi=>absurd hi (Ar _)) hgl;exact HP h cx.floor hF hnl hzs hsz hrm (by rw [q2];simp [rows]) q1
       .rename_i b0 off len0 cap;split at ht
        .rename_i blk hm;split at ht
         .rename_i old hold;obtain ⟨bL,ht⟩:=Xh ht;simp only [Ag,AB] at bL;obtain ⟨hno,bL,hoff⟩:=bL;have hoff:=Ad hoff;simp only [Ac,Aa] at ht;obtain ⟨rfl,rfl,rfl,_⟩:=ht;obtain ⟨k1,k2,k3⟩:=Vk hold;obtain ⟨r1,r2⟩:=Iy len0 old k2;obtain ⟨q1,q2⟩:=Kd r2 hgl;cases hs with
          | sl _ _ _ _ l c hρ aH hlc=>
           have hbk:=h.blk b0 l blk hρ hm;have k4:off+len0*i.size<=blk.cells.length:=(by omega);refine Qc h cx.floor hF aP hnl hzs hsz hrm hρ hm hno (Ad hfl) k4 hlc ?_ (by grind) q1 (by simpa [tyOk,CL,hu,hm] using hty);cases cap with
           | ex k=>exact .inr (by simp only [Ww] at aH;rw [aH];exact Ad bL)
           | un zz=>
            have:=Ae bL
            grind [Ww]
         .cases ht
        .cases ht
       .rename_i b0 zz off len0 cap;split at ht
        .rename_i blk hm;split at ht
         .rename_i A hA;obtain ⟨bL,ht⟩:=Xh ht;simp only [Ac,Aa] at ht;obtain ⟨rfl,rfl,rfl,rfl⟩:=ht;simp only [Ag,An] at hb1;obtain ⟨hz1,hz2',aJ⟩:=hb1;obtain rfl:=Ae hz1;have hAs:=Ae hz2';cases hs with
          | sla _ _ _ _ _ l c hρ aH hlc=>
           obtain ⟨bF,bX,aM⟩:=(h.blk b0 l blk hρ hm).arr A hA;rw [hAs] at aM;have hlr:=Za A.n aM;have hgl0: ∀k,k<len0->(A.get (off+k)).length =i.size:=fun k hk=>aM _ (by omega);obtain ⟨q1,q2⟩:=Kd hgl0 hgl;have hm2:(off+len0)*i.size<=A.n*i.size:=Ak _ aJ;rw [As] at hm2;refine Qc h cx.floor hF aP hnl hzs hsz hrm hρ hm ((h.blk b0 l blk hρ hm).rows hA).noObj (Ad hfl) (by grind) hlc ?_ (by rw [q2,Ve aM aJ,bF]) q1 (by simpa [tyOk,CL,hu,hm] using hty);cases cap with
           | ex k=>exact .inr (by simp only [Ww] at aH;rw [aH];exact Ad bL)
           | un zz=>
            have:=Ae bL
            grind [Ww]
          | slan=>
           obtain ⟨q1,q2⟩:=Kd (get:=fun k=>A.get (off+k)) (len:=0) (fun i hi=>absurd hi (Ar _)) hgl;obtain ⟨ρ',u,w',aB,hv,hr,hev⟩:=HP (P:=P) (type:=type) (ts:=tts) (xs:=uxs) h cx.floor hF hnl hzs hsz hrm (G:=Wh (fun k=>A.get (off+k)) 0 g) (by rw [q2];simp [rows]) q1;have hbn:b0<st.next:=by
            rcases AF b0 st.next with g | g
            .exact g
            .rw [h.bd b0 g] at hm;cases hm
           refine ⟨ρ',u,w',aB,hv,?_,?_⟩
           .refine (hr.kill b0).remem fun b'=> ?_;simp only [CY,Yc];by_cases e1:b'=st.next
            .rw [Ap e1,Aj (by omega),Ap e1]
            simp_all
           .refine hev.remem fun b' hb' cs ty hcs=> ?_;have hne:b'≠b0:=fun e=>by grind
            show Zb (Zt (Zt st.mem b0 none) st.next _) b'=Zb (Zt st.mem st.next _) b';rw [Zx _ _ (by omega),Zx _ _ hne,Zx _ _ (by omega)]
         .cases ht
        .cases ht
       .cases ht
      .cases ha
     .cases ha
    .cases ha
 .cases ha
theorem Ik {st st':St} {w:World} (h:BC ρ st.mem st.next w) (floor:Nat) {ts:Array TypeId} {type:TypeId} {xs:List BA} {us:Array Value} {v:BA} (ha:CS P floor st ts.toList xs=some (v,st')) (hx:Yh (Zp ρ) xs us.toList):
  ∃ρ' u w',(Builtin.copy_ ts type us).run P w=.ok u w'/\BU ρ floor st st' v w ρ' u w'/\st'.env=st.env/\st'.ob=st.ob:=by
 obtain ⟨ts⟩:=ts;obtain ⟨us⟩:=us;simp only at ha hx;unfold CS at ha;split at ha
 .rename_i t _ d x _;cases hx with
  | @cons _ ud _ _ hd hx=>
   cases hx with
   | @cons _ ux _ uxs hx _=>
    split at ha
    .rename_i e hu;split at ha
     .rename_i i hi;split at ha
      .rename_i m src hcs;cases hc:(Nat.beq src.length (m*i.size)&&src.all Kp) with
       | false=>grind
       | true=>
        rw [hc,Aq] at ha;simp only [Ag] at hc;have hsl:=Ae hc.1;have hsc:=hc.2;obtain ⟨aC,aQ⟩:=Yp (P:=P) h hcs hx hsl;split at ha
        .cases hd;simp only [Ac,Aa] at ha;obtain ⟨rfl,rfl⟩:=ha;obtain ⟨vs,hvs,hfc⟩:=aQ 0 (AD _);have bR:(Builtin.firstCells i.size 0 ux).run P w=.ok vs w:=hfc w.drawn;refine ⟨ρ,_,w,?_,⟨.int _ _,h,Ev.refl _ _ _ _ _ h.dom⟩,rfl,rfl⟩;simp_all [Builtin.copy_,run_underlying,Zj,goInt]
        .rename_i dn dg;obtain ⟨hdn,ha'⟩:=Xh ha;clear ha;obtain rfl:=Ae hdn;simp only [Ac,Aa] at ha';obtain ⟨rfl,rfl⟩:=ha';obtain ⟨vs,hvs,hfc⟩:=aQ 0 (AD _);have bR:(Builtin.firstCells i.size 0 ux).run P w=.ok vs w:=hfc w.drawn;have hv0:vs= #[]:=by
          have:vs.size=0:=by rw [<-hvs.1];simp
          grind
         subst hv0;cases hd with
         | datn=>refine ⟨ρ,_,w,?_,⟨.int _ _,h,Ev.refl _ _ _ _ _ h.dom⟩,rfl,rfl⟩;simp_all [Builtin.copy_,run_underlying,Zj,goInt]
         | datz=>refine ⟨ρ,_,w,?_,⟨.int _ _,h,Ev.refl _ _ _ _ _ h.dom⟩,rfl,rfl⟩;simp_all [Builtin.copy_,run_underlying,Zj,goInt,storeCells]
         | dat=>refine ⟨ρ,_,w,?_,⟨.int _ _,h,Ev.refl _ _ _ _ _ h.dom⟩,rfl,rfl⟩;simp_all [Builtin.copy_,run_underlying,Zj,goInt,storeCells]
        .rename_i b off len cap;split at ha
         .rename_i blk hm;dsimp only at ha;cases hf:(!blk.isObj&&(Nat.ble floor b&&Nat.ble (off+(Nat.min m len)*i.size) blk.cells.length)) with
          | false=>grind
          | true=>
           rw [hf,Aq] at ha;simp only [Ag,AB] at hf;obtain ⟨hno,hf⟩:=hf;have hfl:=Ad hf.1;have aJ:=Ad hf.2;simp only [Ac,Aa] at ha;obtain ⟨rfl,rfl⟩:=ha;cases hd with
           | sl _ _ _ _ l c hρ aH hlc=>
            have hmin:Nat.min m len<=m:=Nat.min_le_left _ _;have hmul:Nat.min m len*i.size<=m*i.size:=Ak _ hmin;obtain ⟨vs,hvs,hfc⟩:=aQ (Nat.min m len) hmin;have bR:(Builtin.firstCells i.size (Nat.min m len) ux).run P w=.ok vs w:=hfc w.drawn;have aP:=Zp.cells_oneCell hvs (Ao.2 fun a ha=>Ao.1 hsc a (List.mem_of_mem_take ha));have hvl:(src.take (Nat.min m len*i.size)).length =Nat.min m len*i.size:=(by grind);obtain ⟨cur,el,hw,hcsz,aA⟩:=h.write hρ hm (off:=off) (cs:=src.take (Nat.min m len*i.size)) (vs:=vs.toList) hno (by simpa using hvs.1.symm) (by grind) (fun j h1 h2=>by simpa using hvs.2 j h1 (by grind));have hst:=run_storeCells_at P l.blk (l.base+off) el vs.toList 0 cur w hw (by grind) aP;rw [A8] at hst;refine ⟨ρ,.int .i64 (Nat.min m len),w.setRow l.blk (cur.toList.take (l.base+off)++vs.toList++cur.toList.drop (l.base+off+vs.toList.length)).toArray,?_,⟨.int _ _,?_,Ev.ofWrite h hρ hfl _ _⟩,rfl,rfl⟩;all_goals simp_all [Builtin.copy_,run_underlying,Zj,goInt,St.withMem]
         .cases ha
        .cases ha
      .cases ha
     .cases ha
    .cases ha
 .cases ha
theorem IE {mem:BI} {next:Nat} {w:World} (h:BC ρ mem next w) {n sz:Nat} {g:Nat->List BA} {ux:Value} (hx:Zp ρ (.dat n g) ux) (hg: ∀i,i<n->(g i).length =sz) (hsz:1<=sz) {m:Nat} (hm:m<=n):
  (∀w,(Builtin.lenOf ux).run P w=.ok n w)/\ ∃vs:Array Value,Yg ρ (rows m g) vs/\ ∀d,(Builtin.firstCells sz m ux).run P {w with drawn:=d}=.ok vs {w with drawn:=d}:=by
 cases hx with
 | datn=>
  obtain rfl:m=0:=by omega
  exact ⟨fun w=>by simp [Builtin.lenOf], #[],⟨by simp [rows],fun i h1 h2=>by grind⟩,fun d=>by simp [Builtin.firstCells]⟩
 | datz=>
  obtain rfl:m=0:=by omega
  exact ⟨fun w=>by simp [Builtin.lenOf], #[],⟨by simp [rows],fun i h1 h2=>by grind⟩,fun d=>by simp [Builtin.firstCells,loadCells,loadCellsFrom]⟩
 | dat _ _ blk base sz' cap val aH bY hv hh=>
  refine ⟨fun w=>by simp [Builtin.lenOf],?_⟩;have hg': ∀i,i<m->(g i).length =sz:=fun i hi=>hg i (by omega);have hl:=Za m hg';have hdiv: ∀k,k<m*sz->k / sz<m/\k %sz<sz/\k / sz*sz+k %sz=k:=fun k hk=>
   ⟨AJ (by grind),A3 _ hsz,by rw [A7];exact AS k sz⟩
  have hcell: ∀(d k:Nat),k<m*sz->({w with drawn:=d}:World).cell? ((⟨blk,base,none⟩:Addr).add k)=some (val (k / sz) (k %sz)):=by
   intro d k hk;obtain ⟨hq,hj,e4⟩:=hdiv k hk;have hs:sz'=sz:=by grind
   obtain ⟨cs,el,fz,e1,e2⟩:=hh (k / sz) (k %sz) (by omega) (by omega);have e3:=h.old _ _ e1
   grind [Zr,World.cell?]
  refine ⟨_,⟨?_,?_⟩,fun d=>by simp only [Builtin.firstCells];exact run_loadCells _ _ _ (fun k=>val (k / sz) (k %sz)) (hcell d)⟩
  .simp [hl]
  .intro k h1 h2;obtain ⟨hq,hj,e4⟩:=hdiv k (by grind);have hj':k %sz<(g (k / sz)).length :=by grind
   have hr:=Yf m hg' (k / sz) (k %sz) hq hj;rw [e4,Ai h1,Ai hj'] at hr;rw [Ab hr]
   simpa using (hv (k / sz) (k %sz) (by omega) hj').mono (DO ρ)
theorem HW {g:Nat->List BA} {sz n m:Nat} (hg: ∀i,i<n->(g i).length =sz) (hm:m<=n):(rows n g).take (m*sz)=rows m g:=by
 have:=Ve (off:=0) (len:=m) hg (by omega)
 grind
theorem IL {get g:Nat->List BA} {sz N off n:Nat} (hl: ∀i,i<N->(get i).length =sz) (hg: ∀i,i<n->(g i).length =sz) (h:off+n<=N):
  (∀i,i<N->(Xt get off n g i).length =sz)/\rows N (Xt get off n g)=(rows N get).take (off*sz)++rows n g++(rows N get).drop (off*sz+n*sz):=by
 have h1: ∀i,i<N->(Xt get off n g i).length =sz:=fun i hi=>by
  unfold Xt;cases e:(Nat.ble off i&&Nat.ble (i+1) (off+n)) with
  | true=>
   simp only [Ag] at e;have e1:=Ad e.1;have e2:=Ad e.2
   grind
  | false=>exact hl _ hi
 refine ⟨h1,?_⟩;obtain ⟨r,rfl⟩: ∃r,N=off+(n+r):=⟨N - off - n,by omega⟩
 have e2:off*sz+n*sz=(off+n)*sz:=(As _ _ _).symm;rw [HW hl (by omega),e2];have e3:(rows (off+(n+r)) get).drop ((off+n)*sz)=rows r fun k=>get (off+n+k):=by
  rw [Ve (off:=off+n) (len:=r) hl (by omega)];rw [AL];have:=Za _ hl
  grind
 rw [e3];unfold rows;rw [List.range_add,List.range_add,List.flatMap_append,List.map_append,List.flatMap_append,<-List.append_assoc]
 congr 1
 .congr 1
  .refine Xj fun i hi=> ?_;have:=At.1 hi;unfold Xt;rw [show Nat.ble off i=false from AV.2 fun e=>by have:=Ad e;omega];rfl
  .rw [List.flatMap_map];refine Xj fun i hi=> ?_;have:=At.1 hi;unfold Xt;rw [Aw (show off<=off+i by omega),Aw (show off+i+1<=off+n by omega),Nat.add_sub_cancel_left];rfl
 .rw [List.map_map,List.flatMap_map];refine Xj fun i hi=> ?_;unfold Xt;show (bif Nat.ble off (off+(n+i))&&Nat.ble (off+(n+i)+1) (off+n) then _ else _)=_;rw [show Nat.ble (off+(n+i)+1) (off+n)=false from AV.2 fun e=>by have:=Ad e;omega,Bool.and_false,Ax]
  grind
theorem JW {mem:BI} {next:Nat} {w:World} (h:BC ρ mem next w) {sz:Nat} (hsz:1<=sz) {x:BA} {ux:Value} {m:Nat} {g:Nat->List BA} {o:Bool} (hc:Fx mem sz x=some (m,g,o)) (ho:o=true) (hx:Zp ρ x ux):
  (∀k,k<m->(g k).length =sz/\(g k).all Kp=true)/\ ∀n,n<=m->(∀w,(Builtin.lenOf ux).run P w=.ok m w)/\ ∃vs:Array Value,Yg ρ (rows n g) vs/\ ∀d,(Builtin.firstCells sz n ux).run P {w with drawn:=d}=.ok vs {w with drawn:=d}:=by
 subst ho;have part: ∀(b z off len c:Nat) (l:BM) (blk:BG) (A:B2),ρ b=some l->Zb mem b=some blk->blk.arr=some A->len<=c->(Nat.beq z sz&&(Nat.beq A.sz sz&&(decide (off+len<=A.n)&&CV sz len fun k=>A.get (off+k))))=true->
   (∀k,k<len->(A.get (off+k)).length =sz/\(A.get (off+k)).all Kp=true)/\ ∀n,n<=len->(∀w,(Builtin.lenOf (.slice (some ⟨l.blk,l.base+off*z,none⟩) len c)).run P w=.ok len w)/\ ∃vs:Array Value,Yg ρ (rows n fun k=>A.get (off+k)) vs/\ ∀d,(Builtin.firstCells sz n (.slice (some ⟨l.blk,l.base+off*z,none⟩) len c)).run P {w with drawn:=d}=.ok vs {w with drawn:=d}:=by
  intro b z off len c l blk A hρ hm hA aC ho;simp only [Ag,An] at ho;obtain ⟨k1,k2,k3,k4⟩:=ho;obtain rfl:=Ae k1;have k2:=Ae k2;have k4:=Kf k4;refine ⟨k4,fun n hn=> ?_⟩;have hno:=((h.blk b l blk hρ hm).rows hA).noObj;obtain ⟨bF,bX,aM⟩:=(h.blk b l blk hρ hm).arr A hA;rw [k2] at aM;have hlr:=Za A.n aM;have hm2:(off+len)*z<=A.n*z:=Ak _ k3;rw [As] at hm2;have hpl:=Ve aM k3;have hL:(rows len fun k=>A.get (off+k)).length =len*z:=Za len fun i hi=>(k4 i hi).1;have hcs:Zd mem z (.sl b (off*z) len (.ex c))=some (len,rows len fun k=>A.get (off+k)):=by simp_all [Zd,cut]
  obtain ⟨q1,q2⟩:=Yp (P:=P) h hcs (.sl b (off*z) len (.ex c) l c hρ rfl aC) hL
  grind [HW]
 have none0: ∀(g:Nat->List BA) (n:Nat) (p:Option Addr) (c:Nat),n<=0->(∀w,(Builtin.lenOf (.slice p 0 c)).run P w=.ok 0 w)/\ ∃vs:Array Value,Yg ρ (rows n g) vs/\ ∀d,(Builtin.firstCells sz n (.slice p 0 c)).run P {w with drawn:=d}=.ok vs {w with drawn:=d}:=by
  intro g n p c hn;obtain rfl:n=0:=by omega
  cases p with
  | none=>exact ⟨fun w=>by simp [Builtin.lenOf], #[],⟨by simp [rows],fun i h1 h2=>by grind⟩,fun d=>by simp [Builtin.firstCells]⟩
  | some a=>refine ⟨fun w=>by simp [Builtin.lenOf],_,⟨?_,fun i h1 h2=>by simp [rows] at h1⟩,fun d=>by simp only [Builtin.firstCells];exact run_loadCells _ _ _ (fun _=>undef) fun k hk=>by grind⟩;simp [rows]
 unfold Fx at hc;split at hc
 .simp only [Ac,Aa] at hc;obtain ⟨rfl,rfl,_⟩:=hc;cases hx;exact ⟨fun k hk=>absurd hk (Ar _),fun n hn=>none0 _ n none 0 hn⟩
 .rename_i n' g';simp only [Ac,Aa] at hc;obtain ⟨rfl,rfl,h0⟩:=hc;have hp:=Kf h0;exact ⟨hp,fun n hn=>IE (P:=P) h hx (fun i hi=>(hp i hi).1) hsz hn⟩
 .split at hc
  .rename_i blk hm;split at hc
   .rename_i A hA;simp only [Ac,Aa] at hc;obtain ⟨rfl,rfl,h0⟩:=hc;cases hx with
    | sla _ _ _ _ _ l c hρ aH aC=>grind
    | slan=>exact ⟨fun k hk=>absurd hk (Ar _),fun n hn=>none0 _ n none 0 hn⟩
   .cases hc
  .cases hc
 .split at hc
  .rename_i blk hm;split at hc
   .rename_i A hA;simp only [Ac,Aa] at hc;obtain ⟨rfl,rfl,h0⟩:=hc;cases hx with
    | slv _ _ _ _ l c hρ aC=>grind
    | slve=>exact ⟨fun k hk=>absurd hk (Ar _),fun n hn=>none0 _ n _ _ hn⟩
    | slvn=>exact ⟨fun k hk=>absurd hk (Ar _),fun n hn=>none0 _ n none 0 hn⟩
   .cases hc
  .cases hc
 .cases hc
theorem BC.reblk {mem:BI} {next:Nat} {w:World} (h:BC ρ mem next w) {b:Nat} {blk blk':BG} (hm:Zb mem b=some blk) (hb: ∀l,ρ b=some l->Ya ρ w blk l->Ya ρ w blk' l):BC ρ (Zt mem b (some blk')) next w:=by
 have iff: ∀c,(Zb (Zt mem b (some blk')) c).isSome =true->(Zb mem c).isSome =true:=fun c hc=>by
  grind [Yc]
 have hlt:b<next:=by
  rcases AF b next with q | q
  .exact q
  .rw [h.bd b q] at hm;cases hm
 refine ⟨h.dom,fun c c' m m' e e' he hs hs'=>h.inj c c' m m' e e' he (iff c hs) (iff c' hs'),fun c m ac e hc=> ?_,h.old,fun c m e hs=>h.sep c m e (iff c hs),h.real,fun c hc=> ?_,h.ldom⟩
 .grind [Yc,blk]
 .rw [Zx _ _ (by omega)];exact h.bd c hc
theorem Ev.put {mem:BI} {next:Nat} {w:World} (h:BC ρ mem next w) (floor:Nat) {b:Nat} {blk:BG} {A:B2} (hm:Zb mem b=some blk) (hA:blk.arr=some A) (o:Option BG):Ev ρ ρ floor mem next (Zt mem b o) next w w where
 ext:=BB.le_refl _
 new _ _:=rfl
 nxt:=Ah _
 unborn k _ e cs ty hk:=by
  grind [Zx]
 frame _ _ hk _:=hk
 fresh k m hk e:=by have:=h.dom k m e;omega
 size:=Ah _
 os:=rfl
 tape:=rfl
 output:=rfl
 still _ _:=rfl
theorem Ku {cx:BK} {st st':St} {w:World} (h:BC ρ st.mem st.next w) {ts:Array TypeId} {type:TypeId} {us:Array Value} {b sz off len:Nat} {d x:BA} {xs:List BA} {v:BA} (ha:Kj P cx st ts.toList b sz off len x=some (v,st')) (hob:st'.ob=true) (hx:Yh (Zp ρ) (d::x::xs) us.toList)
  (hd: ∀u,Zp ρ d u->(∃l c,ρ b=some l/\len<=c/\u=.slice (some ⟨l.blk,l.base+off*sz,none⟩) len c)\/(len=0/\ ∃p c,u=.slice p 0 c)):
  ∃ρ' u w',(Builtin.copy_ ts type us).run P w=.ok u w'/\BU ρ cx.floor st st' v w ρ' u w':=by
 obtain ⟨ts⟩:=ts;obtain ⟨us⟩:=us;simp only at ha hx;unfold Kj at ha;split at ha
 .rename_i t _;cases hx with
  | @cons _ ud _ _ hd0 hx=>
   cases hx with
   | @cons _ ux _ uxs hx _=>
    split at ha
    .rename_i e hu;split at ha
     .rename_i i blk hi hm;split at ha
      .rename_i A m g o hA hcs;obtain ⟨aW,ha⟩:=Xh ha;simp only [Ag] at aW;have hfl:=Ad aW.1;have hsz:=Ad aW.2;simp only [Af,Aa] at ha;obtain ⟨st1,ho,rfl,rfl⟩:=ha;obtain ⟨_,m2,n2,o4⟩:=Ut ho;obtain ⟨hb,_⟩:=o4 hob;simp only [Ag,An] at hb;obtain ⟨k1,k2,k3,k4⟩:=hb;obtain rfl:=Ae k1;have k2:=Ae k2;have m2:st1.mem=Zt st.mem b (some ⟨rows A.n (Xt A.get off (Nat.min m len) g),blk.ty,some ⟨A.sz,A.n,Xt A.get off (Nat.min m len) g⟩⟩):=m2;have n2:st1.next=st.next:=n2
       obtain ⟨hg,aQ⟩:=JW (P:=P) h hsz hcs k4 hx;have hmin:Nat.min m len<=m:=Nat.min_le_left _ _;have hmin2:Nat.min m len<=len:=Nat.min_le_right _ _;obtain ⟨aC,vs,hvs,hfc⟩:=aQ (Nat.min m len) hmin;have bR:(Builtin.firstCells i.size (Nat.min m len) ux).run P w=.ok vs w:=hfc w.drawn;have hgl: ∀k,k<Nat.min m len->(g k).length =i.size:=fun k hk=>(hg k (by omega)).1;have hrl:=Za (Nat.min m len) hgl;have aP:=Zp.cells_oneCell hvs (Uo _ fun k hk=>(hg k (by omega)).2);have hbn:b<st.next:=by
        rcases AF b st.next with q | q
        .exact q
        .rw [h.bd b q] at hm;cases hm
       have nothing:Nat.min m len=0->BC ρ st1.mem st1.next w/\Ev ρ ρ cx.floor st.mem st.next st1.mem st1.next w w:=fun e0=>by
        rw [m2,n2,e0];have same: ∀k,Xt A.get off 0 g k=A.get k:=fun k=>by
         unfold Xt;cases e:(Nat.ble off k&&Nat.ble (k+1) (off+0)) with
         | true=>simp only [Ag] at e;have e1:=Ad e.1;have e2:=Ad e.2;omega
         | false=>rfl
        have same:Xt A.get off 0 g=A.get:=funext same;rw [same];refine ⟨?_,Ev.put h cx.floor hm hA _⟩;refine h.reblk hm fun l hρ hbk=> ?_;have hbk:=hbk.rows hA;obtain ⟨bF,bX,aM⟩:=hbk.arr A hA;refine .plain ⟨by have:=hbk.typ;grind,by rw [hbk.n,bF],hbk.tot,fun B hB=> ?_,?_⟩
        .obtain rfl:=Ab hB;exact ⟨rfl,bX,aM⟩
        .have:=hbk.cells
         grind
       rcases hd ud hd0 with ⟨l,c,hρ,hlc,rfl⟩ | ⟨rfl,p,c,rfl⟩
       .have hb0:=(h.blk b l blk hρ hm).rows hA;have hno:=hb0.noObj;obtain ⟨bF,bX,aM⟩:=hb0.arr A hA;rw [k2] at aM;have hlr:=Za A.n aM;have hfitN:off+Nat.min m len<=A.n:=(by omega);obtain ⟨c1,c2⟩:=IL aM hgl hfitN;have hm3:(off+Nat.min m len)*i.size<=A.n*i.size:=Ak _ hfitN;rw [As] at hm3;obtain ⟨cur,el,hw,hcsz,aA⟩:=h.write hρ hm (off:=off*i.size) (cs:=rows (Nat.min m len) g) (vs:=vs.toList) hno (by simpa using hvs.1.symm) (by grind) (fun j h1 h2=>by simpa using hvs.2 j h1 (by grind));have bT:=hb0.splice (off:=off*i.size) (cs:=rows (Nat.min m len) g) (vs:=vs.toList) (by simpa using hvs.1.symm) (by grind) (fun j h1 h2=>by simpa using hvs.2 j h1 (by grind)) blk.ty none;have hst:=run_storeCells_at P l.blk (l.base+off*i.size) el vs.toList 0 cur w hw (by grind) aP;rw [A8] at hst;rw [hrl,bF,<-c2] at aA bT;refine ⟨ρ,.int .i64 (Nat.min m len:Nat),w.setRow l.blk (cur.toList.take (l.base+off*i.size)++vs.toList++cur.toList.drop (l.base+off*i.size+vs.toList.length)).toArray,?_,.int _ _,?_,?_⟩
        .have hl2:=aC w;simp [Builtin.copy_,run_underlying hu,aC,Zj hi,bR,goInt,hst,-Array.length_toList,-List.append_assoc]
        .rw [m2,n2];have:=aA.setArr ⟨A.sz,A.n,.flat (Xt A.get off (Nat.min m len) g)⟩ bT rfl bX (by rw [k2];exact c1);exact this
        grind [Ev.ofWrite]
       .have e0:Nat.min m 0=0:=Nat.min_zero m;obtain ⟨n1,n3⟩:=nothing e0;refine ⟨ρ,.int .i64 (Nat.min m 0:Nat),w,?_,.int _ _,n1,n3⟩;rw [e0] at bR hvs;have hv0:vs= #[]:=by
         have:vs.size=0:=by rw [<-hvs.1];simp [rows]
         grind
        subst hv0;cases p with
        | none=>simp [Builtin.copy_,run_underlying hu,aC,Zj hi,bR,goInt]
        | some a=>simp [Builtin.copy_,run_underlying hu,aC,Zj hi,bR,goInt,storeCells]
      .cases ha
     .cases ha
    .cases ha
 .cases ha
theorem JI {st st':St} {w:World} (h:BC ρ st.mem st.next w) (floor:Nat) {ts:Array TypeId} {type:TypeId} {xs:List BA} {us:Array Value} {v:BA} (ha:C5 P floor st ts.toList xs=some (v,st')) (hx:Yh (Zp ρ) xs us.toList):
  ∃ρ' u w',(Builtin.clear_ ts type us).run P w=.ok u w'/\BU ρ floor st st' v w ρ' u w'/\st'.env=st.env/\st'.ob=st.ob:=by
 obtain ⟨ts⟩:=ts;obtain ⟨us⟩:=us;simp only at ha hx;unfold C5 at ha;have unit:Zp ρ (.tup []) (.tuple #[]):=.tup [] #[] rfl fun i h1 _=>by simp at h1
 split at ha
 .rename_i t _ d _;cases hx with
  | @cons _ ud _ _ hd _=>
   split at ha
   .rename_i e hu;split at ha
    .rename_i i zero hi hz;obtain ⟨i2,z,hi2,_,hzr,hzv⟩:=Yy (ρ:=ρ) hz;split at ha
     .cases hd;simp only [Ac,Aa] at ha;obtain ⟨rfl,rfl⟩:=ha;exact ⟨ρ,.tuple #[],w,by simp [Builtin.clear_,run_underlying hu],⟨unit,h,Ev.refl _ _ _ _ _ h.dom⟩,rfl,rfl⟩
     .rename_i b off len cap;cases hd with
      | sl _ _ _ _ l c hρ aH hlc=>
       rcases (by cases hl0:Nat.beq len 0 with
         | true=>rw [hl0] at ha;exact .inl ⟨rfl,ha⟩
         | false=>rw [hl0] at ha;exact .inr ⟨rfl,ha⟩:(Nat.beq len 0=true/\_)\/(Nat.beq len 0=false/\_)) with ⟨hl0,ha⟩ | ⟨hl0,ha⟩
       .have hl0:=Ae hl0;subst hl0;simp only [Aq,Ac,Aa] at ha;obtain ⟨rfl,rfl⟩:=ha;exact ⟨ρ,.tuple #[],w,by simp [Builtin.clear_,run_underlying hu],⟨unit,h,Ev.refl _ _ _ _ _ h.dom⟩,rfl,rfl⟩
       .obtain ⟨hc,ha⟩:=Xh ha;simp only [Ag] at hc;obtain ⟨⟨hzl,hzs⟩,hfl⟩:=hc;have hzl:=Ae hzl;have hfl:=Ad hfl;split at ha
        .rename_i blk hm;obtain ⟨aJ,ha⟩:=Xh ha;simp only [Ag,AB] at aJ;obtain ⟨hno,aJ⟩:=aJ;have aJ:=Ad aJ;simp only [Ac,Aa] at ha;obtain ⟨rfl,rfl⟩:=ha;have hrl:(BP len zero).length =len*i.size:=(by rw [Wc,hzl]);have bG:Yg ρ (BP len zero) (Builtin.zeroCells z.cells len):=Jc hzr len (len*z.cells.size) (by rw [hzr.1]);have aP: ∀v∈(Builtin.zeroCells z.cells len).toList,v.oneCell'=true:=Zp.cells_oneCell bG (by
          grind [BP])
         obtain ⟨cur,el,hw,hcsz,aA⟩:=h.write hρ hm (off:=off) (cs:=BP len zero) (vs:=(Builtin.zeroCells z.cells len).toList) hno (by simpa using bG.1.symm) (by grind) (fun j h1 h2=>by simpa using bG.2 j h1 (by grind));have hst:=run_storeCells_at P l.blk (l.base+off) el (Builtin.zeroCells z.cells len).toList 0 cur w hw (by grind) aP;rw [A8] at hst;have hne:len≠0:=fun e=>by simp_all
         refine ⟨ρ,.tuple #[],w.setRow l.blk (cur.toList.take (l.base+off)++(Builtin.zeroCells z.cells len).toList ++cur.toList.drop (l.base+off+(Builtin.zeroCells z.cells len).toList.length)).toArray,?_,⟨unit,?_,Ev.ofWrite h hρ hfl _ _⟩,rfl,rfl⟩;all_goals simp_all [Builtin.clear_,run_underlying,St.withMem]
        .cases ha
     .cases ha
    .cases ha
   .cases ha
 .cases ha
end
section
variable {P:Program} {ρ:BB}
structure Zf (floor:Nat) (st st':St):Prop where
 nxt:st.next<=st'.next
 bd:(∀b,st.next<=b->Zb st.mem b=none)-> ∀b,st'.next<=b->Zb st'.mem b=none
 low:floor<=st.next-> ∀b,b<floor->Zb st'.mem b=Zb st.mem b
 ob:st'.ob=true->st.ob=true
theorem Zf.refl (floor:Nat) (st:St):Zf floor st st:=⟨Ah _,fun h=>h,fun _ _ _=>rfl,fun h=>h⟩
theorem Zf.trans {floor:Nat} {a b c:St} (h:Zf floor a b) (k:Zf floor b c):Zf floor a c:=
 ⟨Ay h.nxt k.nxt,fun x=>k.bd (h.bd x),fun x d hd=>(k.low (Ay x h.nxt) d hd).trans (h.low x d hd),fun x=>h.ob (k.ob x)⟩
theorem Zf.write {floor:Nat} (st:St) {b:Nat} {ab:BG} (o:Option BG) (hf:floor<=b) (hm:Zb st.mem b=some ab):Zf floor st (st.withMem (Zt st.mem b o)) where
 nxt:=Ah _
 bd h k hk:=by
  have hne:k≠b:=fun e=>by rw [e,] at hk;rw [h b hk] at hm;cases hm
  show Zb (Zt st.mem b o) k=none;rw [Zx _ _ hne];exact h k hk
 low _ k hk:=Zx _ _ (by omega)
 ob h:=h
theorem Zf.new {floor:Nat} (st:St) (cs:List BA) (ty:TypeId):Zf floor st (Um st cs ty) where
 nxt:=A9 _
 bd h k hk:=by
  have hk':st.next+1<=k:=hk
  show Zb (Zt st.mem st.next _) k=none
  grind [Zx]
 low hf k hk:=Zx _ _ (by omega)
 ob h:=h
def Bb (R:BF):Prop:= ∀cx todo st st',R cx todo st=some st'->Zf cx.floor st st'
theorem Zs {cx:BK} {st st':St} {b:Bool} (h:st.owe cx b=some st'):st'.env=st.env/\st'.mem=st.mem/\st'.next=st.next/\(st'.ob=true->b=true/\st.ob=true):=by
 obtain ⟨env,mem,next,orc,ob⟩:=st
 grind [St.owe]
theorem Vd {st st':St} {b e:Bool} (h:st.test b=(e,st')):st'.env=st.env/\st'.mem=st.mem/\st'.next=st.next/\(st'.ob=true->e=b/\st.ob=true):=by
 obtain ⟨env,mem,next,orc,ob⟩:=st;cases orc with
 | nil=>
  grind [St.test]
 | cons c r=>
  grind [St.test]
theorem Yx {cx:BK} {st st':St} {dst:Option Tmp} {v:BA} (h:st.put cx dst v=some st'):st'.mem=st.mem/\st'.next=st.next/\st'.ob=st.ob/\
  ((dst=none/\st'.env=st.env)\/ ∃d,dst=some d/\d<cx.n/\st'.env=T.set .undef st.env d v):=by
 obtain ⟨env,mem,next,orc,ob⟩:=st;cases dst with
 | none=>
  grind [St.put]
 | some d=>
  simp only [St.put] at h;cases hb:Nat.ble (d+1) cx.n with
  | false=>grind
  | true=>rw [hb,Aq] at h;obtain rfl:=Ab h;exact ⟨rfl,rfl,rfl,.inr ⟨d,rfl,Ad hb,rfl⟩⟩
theorem Zf.same {floor:Nat} {st st':St} (hm:st'.mem=st.mem) (hn:st'.next=st.next) (ho:st'.ob=true->st.ob=true):Zf floor st st':=
 ⟨by grind,fun h b hb=>by grind,fun _ b _=>by rw [hm],ho⟩
theorem Zu {α:Type} {c:Bool} {x:Option α} {y:α} (h:(bif c then x else none)=some y):c=true/\x=some y:=by grind
theorem Yd {α:Type} {c:Bool} {x z:Option α} {y:α} (h:(bif c then x else z)=some y):(c=true/\x=some y)\/(c=false/\z=some y):=by grind
theorem IX {floor:Nat} {st st':St} {t:TypeId} {x v:BA} (h:C7 P floor st t x v=some st'):Zf floor st st'/\st'.env=st.env:=by
 unfold C7 at h;split at h
 .obtain ⟨hc,h⟩:=Zu h;simp only [Ag] at hc;split at h
  .rename_i blk hm;obtain ⟨_,h⟩:=Zu h;obtain rfl:=Ab h;exact ⟨Zf.write st _ (Ad hc.1.1.1) hm,rfl⟩
  .cases h
 .cases h
theorem Im {cx:BK} {st st':St} {t:TypeId} {x v:BA} (h:Uf P cx st t x v=some st'):Zf cx.floor st st'/\st'.env=st.env:=by
 unfold Uf at h;split at h
 .obtain ⟨hc,h⟩:=Zu h;simp only [Ag] at hc;split at h
  .rename_i blk hm;split at h
   .split at h
    .rename_i rw1 st1 bM;obtain ⟨s1,s2,s3,s4⟩:=Ub bM;obtain ⟨o1,o2,o3,o4⟩:=Zs h;have a1:Zf cx.floor st st1:=Zf.same s2 s3 fun x=>(s4 x).2;exact ⟨(a1.trans (Zf.write st1 _ (Ad hc.1.1.1.1) (by rw [s2];exact hm))).trans (Zf.same o2 o3 fun x=>(o4 x).2),o1.trans s1⟩
    .cases h
   .cases h
  .cases h
 .cases h
theorem J6 {st st':St} {t:TypeId} {len:Nat} {ps:List (Nat×BA)} {v:BA} {un:Bool} (floor:Nat) (h:Xx P un st t len ps=some (v,st')):Zf floor st st'/\st'.env=st.env:=by
 unfold Xx at h;split at h
 .split at h
  .obtain ⟨_,h⟩:=Zu h;split at h
   .simp only [Ac,Aa] at h;obtain ⟨_,rfl⟩:=h;exact ⟨Zf.new st _ _,rfl⟩
   .cases h
  .cases h
 .cases h
theorem Ug {st st':St} {t:TypeId} {x y v:BA} (floor:Nat) (h:Yn P st t x y=some (v,st')):Zf floor st st'/\st'.env=st.env:=by
 unfold Yn at h;split at h
 .split at h
  .obtain ⟨_,h⟩:=Zu h;simp only [Ac,Aa] at h;obtain ⟨_,rfl⟩:=h;exact ⟨Zf.new st _ _,rfl⟩
  .cases h
 .cases h
theorem Ig {floor:Nat} {st st':St} {ts:List TypeId} {xs:List BA} {v:BA} (h:Wx P floor st ts xs=some (v,st')):Zf floor st st'/\st'.env=st.env:=by
 unfold Wx at h;split at h
 .split at h
  .split at h
   .split at h
    .obtain ⟨_,h⟩:=Zu h;split at h
     .rcases Yd h with ⟨_,h⟩ | ⟨_,h⟩
      .grind [Zf.refl]
      .obtain ⟨_,h⟩:=Zu h;simp only [Ac,Aa] at h;obtain ⟨_,rfl⟩:=h;exact ⟨Zf.new st _ _,rfl⟩
     .split at h
      .rename_i blk hm;split at h
       .obtain ⟨_,h⟩:=Zu h;split at h
        .rcases Yd h with ⟨_,h⟩ | ⟨_,h⟩
         .obtain ⟨hc,h⟩:=Zu h;simp only [Ag] at hc;simp only [Ac,Aa] at h;obtain ⟨_,rfl⟩:=h;exact ⟨Zf.write st _ (Ad hc.1) hm,rfl⟩
         .simp only [Ac,Aa] at h;obtain ⟨_,rfl⟩:=h;exact ⟨Zf.new st _ _,rfl⟩
        .obtain ⟨hc,h⟩:=Zu h;simp only [Ag] at hc;have hf:=Ad hc.2;rcases Yd h with ⟨_,h⟩ | ⟨_,h⟩
         .simp only [Ac,Aa] at h;obtain ⟨_,rfl⟩:=h;exact ⟨Zf.write st _ hf hm,rfl⟩
         .obtain ⟨_,h⟩:=Zu h;simp only [Ac,Aa] at h;obtain ⟨_,rfl⟩:=h;exact ⟨(Zf.write st none hf hm).trans (Zf.new _ _ _),rfl⟩
       .cases h
      .cases h
     .cases h
    .cases h
   .cases h
  .cases h
 .cases h
theorem Zf.put {floor:Nat} (st:St) (cs:Option BG) {st':St} (hm:st'.mem=Zt st.mem st.next cs) (hn:st'.next=st.next+1) (ho:st'.ob=true->st.ob=true):Zf floor st st' where
 nxt:=by grind
 bd h k hk:=by
  grind [Zx]
 low hf k hk:=by grind [Zx]
 ob:=ho
theorem J7 {cx:BK} {st st':St} {t:TypeId} {x y v:BA} (h:Xy P cx st t x y=some (v,st')):Zf cx.floor st st'/\st'.env=st.env:=by
 unfold Xy at h;split at h
 .split at h
  .obtain ⟨_,h⟩:=Zu h;simp only [Af,Aa] at h;obtain ⟨_,h1,_,rfl⟩:=h;obtain ⟨o1,o2,o3,o4⟩:=Zs h1;exact ⟨Zf.put st _ o2 (o3.trans rfl) fun x=>(o4 x).2,o1⟩
  .cases h
 .cases h
theorem JE {cx:BK} {st st':St} {ts:List TypeId} {xs:List BA} {v:BA} (h:Vg P cx st ts xs=some (v,st')):Zf cx.floor st st'/\st'.env=st.env:=by
 unfold Vg at h;split at h
 .split at h
  .split at h
   .cases h
   .split at h
    .split at h
     .rename_i hm;split at h
      .obtain ⟨hc,h⟩:=Zu h;simp only [Ag] at hc;simp only [Af,Aa] at h;obtain ⟨_,h1,_,rfl⟩:=h;obtain ⟨o1,o2,o3,o4⟩:=Zs h1;exact ⟨(Zf.write st none (Ad hc.1.2) hm).trans (Zf.put (st.withMem _) _ o2 (o3.trans rfl) fun x=>(o4 x).2),o1⟩
      .cases h
     .cases h
    .cases h
  .cases h
 .cases h
theorem KH {floor:Nat} {st:St} {sz len:Nat} {x:BA} {b:Option Nat} {get:Nat->List BA} {o:Bool} (ht:Uz st.mem sz x=some (b,len,get,o)) (hf:Gr floor b=true):Zf floor st (st.withMem (CY st.mem b)):=by
 cases b with
 | none=>exact Zf.refl _ _
 | some b=>
  have hm: ∃ab,Zb st.mem b=some ab:=by
   unfold Uz at ht
   grind
  obtain ⟨ab,hm⟩:=hm;exact Zf.write st none (Ad hf) hm
theorem JF {cx:BK} {st st':St} {ts:List TypeId} {xs:List BA} {v:BA} (h:Xn P cx st ts xs=some (v,st')):Zf cx.floor st st'/\st'.env=st.env:=by
 unfold Xn at h;split at h
 .split at h
  .split at h
   .split at h
    .rename_i ht _;obtain ⟨hc,h⟩:=Zu h;simp only [Ag] at hc;simp only [Af,Aa] at h;obtain ⟨_,h1,_,rfl⟩:=h;obtain ⟨o1,o2,o3,o4⟩:=Zs h1;exact ⟨(KH ht hc.2).trans (Zf.put (st.withMem _) _ o2 (o3.trans rfl) fun x=>(o4 x).2),o1⟩
    .cases h
   .cases h
  .cases h
 .cases h
theorem JD {cx:BK} {st st':St} {ts:List TypeId} {xs:List BA} {v:BA} (h:Wq P cx st ts xs=some (v,st')):Zf cx.floor st st'/\st'.env=st.env:=by
 unfold Wq at h;rcases Yd h with ⟨_,h⟩ | ⟨_,h⟩
 .cases h
 rcases Yd h with ⟨_,h⟩ | ⟨_,h⟩;all_goals grind [JF,JE,Ig]
theorem Hy {floor:Nat} {st st':St} {ts:List TypeId} {xs:List BA} {v:BA} (h:CS P floor st ts xs=some (v,st')):Zf floor st st'/\st'.env=st.env:=by
 unfold CS at h;split at h
 .split at h
  .split at h
   .split at h
    .obtain ⟨_,h⟩:=Zu h;split at h
     .grind [Zf.refl]
     .obtain ⟨_,h⟩:=Zu h
      grind [Zf.refl]
     .dsimp only at h;split at h
      .rename_i blk hm;obtain ⟨hc,h⟩:=Zu h;simp only [Ag] at hc;simp only [Ac,Aa] at h;obtain ⟨_,rfl⟩:=h;exact ⟨Zf.write st _ (Ad hc.2.1) hm,rfl⟩
      .cases h
     .cases h
    .cases h
   .cases h
  .cases h
 .cases h
theorem IS {floor:Nat} {st st':St} {ts:List TypeId} {xs:List BA} {v:BA} (h:C5 P floor st ts xs=some (v,st')):Zf floor st st'/\st'.env=st.env:=by
 unfold C5 at h;split at h
 .split at h
  .split at h
   .split at h
    .grind [Zf.refl]
    .rcases Yd h with ⟨_,h⟩ | ⟨_,h⟩
     .grind [Zf.refl]
     .obtain ⟨hc,h⟩:=Zu h;simp only [Ag] at hc;split at h
      .rename_i blk hm;obtain ⟨_,h⟩:=Zu h;simp only [Ac,Aa] at h;obtain ⟨_,rfl⟩:=h;exact ⟨Zf.write st _ (Ad hc.2) hm,rfl⟩
      .cases h
    .cases h
   .cases h
  .cases h
 .cases h
theorem HL {S:BD} {R:BF} (hR:Bb R) {lift:Bool} {f:FuncId} {args:List BA} {cx:BK} {st st':St} {v:BA} (h:Cr P S R lift f args cx st=some (v,st')):
  (Zf cx.floor st st'/\(lift=true-> ∀b,b<st.next->CC S f args≠some b->Zb st'.mem b=Zb st.mem b))/\st'.env=st.env:=by
 unfold Cr at h;split at h
 .rcases Yd h with ⟨_,h⟩ | ⟨_,h⟩
  .split at h
   .obtain ⟨_,h⟩:=Zu h;simp only [Af,Aa] at h
    grind [Zs,Zf.same]
   .cases h
  .split at h;split at h
   .obtain ⟨_,h⟩:=Zu h;simp only [Af,Aa] at h
    grind [Zs,Zf.same]
   .cases h
 .split at h
  .rename_i v0 b blk o _;split at h
   .rename_i ab hm;obtain ⟨hc,h⟩:=Zu h;simp only [Ag,AB] at hc;simp only [Af,Aa] at h;obtain ⟨st1,h1,_,rfl⟩:=h;obtain ⟨e1,e2,e3,e4⟩:=Zs h1;exact ⟨⟨(Zf.write st (some blk) (Ad hc.2) hm).trans (Zf.same e2 e3 fun x=>(e4 x).2),fun hl=>by grind⟩,e1⟩
   .cases h
  .cases h
 .rename_i ty0 F hF;split at h
  .rename_i b sz n sz' r;split at h
   .rename_i cells ty A hm;obtain ⟨hc,h⟩:=Zu h;simp only [Ag] at hc;split at h
    .rename_i n' g o _;simp only [Af,Aa] at h;obtain ⟨st1,h1,_,rfl⟩:=h;obtain ⟨env,mem,next,orc,ob⟩:=st;simp only at h1 hm ⊢;obtain ⟨e1,e2,e3,e4⟩:=Zs h1;simp only at e1 e2 e3 e4;have hle:=Ad hc.2.2.1;refine ⟨⟨⟨?_,fun hb k hk=> ?_,fun hf k hk=> ?_,fun x=>(e4 x).2⟩,fun _ k hk hn=> ?_⟩,e1⟩;all_goals grind [Zx,CC]
    .cases h
   .cases h
  .cases h
 .split at h
  .split at h
   .split at h
    .rename_i st2 hr;split at h
     .simp only [Ac,Aa] at h;obtain ⟨_,rfl⟩:=h;have q:=hR _ _ _ _ hr;refine ⟨?_,rfl⟩;cases lift with
      | false=>exact ⟨⟨q.nxt,q.bd,q.low,q.ob⟩,fun x=>by cases x⟩
      | true=>refine ⟨⟨q.nxt,q.bd,fun hf b hb=>q.low (Ah _) b (Av hb hf),q.ob⟩,fun _ b hb _=>q.low (Ah _) b hb⟩
     .cases h
    .cases h
   .cases h
  .cases h
theorem IV {cx:BK} {st st':St} {ts:List TypeId} {b sz off len:Nat} {x v:BA} (h:Kj P cx st ts b sz off len x=some (v,st')):Zf cx.floor st st'/\st'.env=st.env:=by
 unfold Kj at h;split at h
 .split at h
  .split at h
   .rename_i hm;split at h
    .obtain ⟨hc,h⟩:=Zu h;simp only [Ag] at hc;simp only [Af,Aa] at h;obtain ⟨_,h1,_,rfl⟩:=h;obtain ⟨o1,o2,o3,o4⟩:=Zs h1;exact ⟨(Zf.write st _ (Ad hc.1) hm).trans (Zf.same o2 o3 fun x=>(o4 x).2),o1⟩
    .cases h
   .cases h
  .cases h
 .cases h
theorem IU {cx:BK} {st st':St} {ts:List TypeId} {xs:List BA} {v:BA} (h:Cw P cx st ts xs=some (v,st')):Zf cx.floor st st'/\st'.env=st.env:=by
 unfold Cw at h
 grind [IV,Hy]
theorem Hj {S:BD} {R:BF} (hR:Bb R) {lift:Bool} {op:Op} {cx:BK} {st st':St} {v:BA} (h:Yu P S R lift op cx st=some (v,st')):Zf cx.floor st st'/\st'.env=st.env:=by
 unfold Yu at h;split at h
 .split at h
  .rename_i hl;obtain ⟨l1,l2,l3,l4⟩:=Vm hl;simp only [Af,Aa] at h
   grind [Zs,Zf.same]
  .cases h
 .simp only [Af,Aa] at h;obtain ⟨_,_,_,rfl⟩:=h;exact ⟨Zf.new st _ _,rfl⟩
 .obtain ⟨_,h⟩:=Zu h;simp only [Ac,Aa] at h;obtain ⟨_,rfl⟩:=h;exact ⟨Zf.new st _ _,rfl⟩
 .exact J6 _ h
 .split at h
  .simp only [Af,Aa] at h
   grind [Im]
  .simp only [Af,Aa] at h
   grind [IX]
 .rcases Yd h with ⟨_,h⟩ | ⟨_,h⟩
  .rcases Yd h with ⟨_,h⟩ | ⟨_,h⟩
   .have q:=Ug (st:=st.dropO) cx.floor h;exact ⟨⟨q.1.nxt,q.1.bd,q.1.low,q.1.ob⟩,q.2⟩
   .have q:=J7 (st:=st.dropO) h;exact ⟨⟨q.1.nxt,q.1.bd,q.1.low,q.1.ob⟩,q.2⟩
  .exact Ug _ h
 all_goals grind [JD,IU,IS,HL]
def BY (x:Nat) (st st':St):Prop:=Zb st'.mem x=Zb st.mem x
theorem Xv {x b:Nat} (st:St) (o:Option BG) (hn:b≠x):BY x st (st.withMem (Zt st.mem b o)):=Zx _ _ fun e=>hn e.symm
theorem Uy {x:Nat} (st:St) (cs:List BA) (ty:TypeId) (hx:x<st.next):BY x st (Um st cs ty):=Zx _ _ (AM hx)
theorem In {x:Nat} {floor:Nat} {st st':St} {t:TypeId} {a v:BA} (h:C7 P floor st t a v=some st') (hn: ∀off,a≠ .ptr x off):BY x st st':=by
 unfold C7 at h;split at h
 .rename_i b off _ _;obtain ⟨_,h⟩:=Zu h;split at h
  .obtain ⟨_,h⟩:=Zu h
   grind [Xv]
  .cases h
 .cases h
theorem JN {x:Nat} {cx:BK} {st st':St} {t:TypeId} {a v:BA} (h:Uf P cx st t a v=some st') (hn: ∀sz r fo,a≠ .epa x sz r fo):BY x st st':=by
 unfold Uf at h;split at h
 .rename_i b sz r fo _ _;obtain ⟨_,h⟩:=Zu h;split at h
  .split at h
   .split at h
    .rename_i rw1 st1 bM;obtain ⟨_,s2,_,_⟩:=Ub bM;obtain ⟨_,o2,_,_⟩:=Zs h;unfold BY;rw [o2,<-s2];exact Xv st1 _ fun e=>hn sz r fo (by rw [e])
    .cases h
   .cases h
  .cases h
 .cases h
theorem Kc {x:Nat} {st st':St} {t:TypeId} {len:Nat} {ps:List (Nat×BA)} {v:BA} {un:Bool} (hx:x<st.next) (h:Xx P un st t len ps=some (v,st')):BY x st st':=by
 unfold Xx at h;split at h
 .split at h
  .obtain ⟨_,h⟩:=Zu h
   grind [Uy]
  .cases h
 .cases h
theorem Vs {x:Nat} {st st':St} {t:TypeId} {l c v:BA} (hx:x<st.next) (h:Yn P st t l c=some (v,st')):BY x st st':=by
 unfold Yn at h;split at h
 .split at h
  .obtain ⟨_,h⟩:=Zu h
   grind [Uy]
  .cases h
 .cases h
theorem JG {x floor:Nat} {st st':St} {ts:List TypeId} {xs:List BA} {v:BA} (hx:x<st.next) (h:Wx P floor st ts xs=some (v,st')) (hn: ∀off len cap r,xs≠ .sl x off len cap::r):BY x st st':=by
 unfold Wx at h;split at h
 .split at h
  .split at h
   .split at h
    .obtain ⟨_,h⟩:=Zu h;split at h
     .rcases Yd h with ⟨_,h⟩ | ⟨_,h⟩
      .simp only [Ac,Aa] at h;obtain ⟨_,rfl⟩:=h;rfl
      .obtain ⟨_,h⟩:=Zu h
       grind [Uy]
     .have hb:=fun e=>hn _ _ _ _ (congrArg (fun b=>BA.sl b _ _ _::_) e);split at h
      .rename_i blk hm;split at h
       .obtain ⟨_,h⟩:=Zu h;split at h
        .rcases Yd h with ⟨_,h⟩ | ⟨_,h⟩
         .obtain ⟨hc,h⟩:=Zu h
          grind [Xv]
         grind [Uy]
        .obtain ⟨hc,h⟩:=Zu h;rcases Yd h with ⟨_,h⟩ | ⟨_,h⟩
         .grind [Xv]
         .obtain ⟨_,h⟩:=Zu h;simp only [Ac,Aa] at h;obtain ⟨_,rfl⟩:=h;exact (Uy (st.withMem (Zt st.mem _ none)) _ _ hx).trans (Xv st none hb)
       .cases h
      .cases h
     .cases h
    .cases h
   .cases h
  .cases h
 .cases h
theorem Kg {x:Nat} {cx:BK} {st st':St} {t:TypeId} {l c v:BA} (hx:x<st.next) (h:Xy P cx st t l c=some (v,st')):BY x st st':=by
 unfold Xy at h;split at h
 .split at h
  .obtain ⟨_,h⟩:=Zu h;simp only [Af,Aa] at h;obtain ⟨_,h1,_,rfl⟩:=h;obtain ⟨_,o2,_,_⟩:=Zs h1
   grind [BY,Zx]
  .cases h
 .cases h
theorem JQ {x:Nat} {cx:BK} {st st':St} {ts:List TypeId} {xs:List BA} {v:BA} (hx:x<st.next) (h:Vg P cx st ts xs=some (v,st')) (hn: ∀sz off len cap r,xs≠ .sla x sz off len cap::r):BY x st st':=by
 unfold Vg at h;split at h
 .have hb:=fun e=>hn _ _ _ _ _ (congrArg (fun b=>BA.sla b _ _ _ _::_) e);split at h
  .split at h
   .cases h
   .split at h
    .split at h
     .split at h
      .obtain ⟨hc,h⟩:=Zu h;simp only [Af,Aa] at h;obtain ⟨_,h1,_,rfl⟩:=h;obtain ⟨_,o2,_,_⟩:=Zs h1
       grind [BY,Zx]
      .cases h
     .cases h
    .cases h
  .cases h
 .cases h
theorem J5 {m:BI} {sz len b:Nat} {x:BA} {get:Nat->List BA} {o:Bool} (ht:Uz m sz x=some (some b,len,get,o)):(∃off len cap,x=.sl b off len cap)\/ ∃sz off len cap,x=.sla b sz off len cap:=by
 unfold Uz at ht
 grind
theorem JR {x:Nat} {cx:BK} {st st':St} {ts:List TypeId} {xs:List BA} {v:BA} (hx:x<st.next) (h:Xn P cx st ts xs=some (v,st')) (hn: ∀off len cap r,xs≠ .sl x off len cap::r) (hn2: ∀sz off len cap r,xs≠ .sla x sz off len cap::r):BY x st st':=by
 unfold Xn at h;split at h
 .split at h
  .split at h
   .split at h
    .rename_i b len get o1 n g o2 ht _;obtain ⟨hc,h⟩:=Zu h;simp only [Af,Aa] at h;obtain ⟨_,h1,_,rfl⟩:=h;obtain ⟨_,o2,_,_⟩:=Zs h1;unfold BY;rw [o2];show Zb (Zt (CY st.mem b) st.next _) x=_;rw [Zx _ _ (AM hx)];cases b with
     | none=>rfl
     | some b=>
      refine Zx _ _ fun e=> ?_
      grind [J5]
    .cases h
   .cases h
  .cases h
 .cases h
theorem JP {x:Nat} {cx:BK} {st st':St} {ts:List TypeId} {xs:List BA} {v:BA} (hx:x<st.next) (h:Wq P cx st ts xs=some (v,st')) (hn: ∀off len cap r,xs≠ .sl x off len cap::r) (hn2: ∀sz off len cap r,xs≠ .sla x sz off len cap::r):BY x st st':=by
 unfold Wq at h;rcases Yd h with ⟨_,h⟩ | ⟨_,h⟩
 .cases h
 rcases Yd h with ⟨_,h⟩ | ⟨_,h⟩;all_goals grind [JR,JQ,JG]
theorem IW {x floor:Nat} {st st':St} {ts:List TypeId} {xs:List BA} {v:BA} (h:CS P floor st ts xs=some (v,st')) (hn: ∀off len cap r,xs≠ .sl x off len cap::r):BY x st st':=by
 unfold CS at h;split at h
 .split at h
  .split at h
   .split at h
    .obtain ⟨_,h⟩:=Zu h;split at h
     .simp only [Ac,Aa] at h;obtain ⟨_,rfl⟩:=h;rfl
     .obtain ⟨_,h⟩:=Zu h;simp only [Ac,Aa] at h;obtain ⟨_,rfl⟩:=h;rfl
     .have hb:=fun e=>hn _ _ _ _ (congrArg (fun b=>BA.sl b _ _ _::_) e);dsimp only at h;split at h
      .obtain ⟨hc,h⟩:=Zu h
       grind [Xv]
      .cases h
     .cases h
    .cases h
   .cases h
  .cases h
 .cases h
theorem Ij {x:Nat} {cx:BK} {st st':St} {ts:List TypeId} {b sz off len:Nat} {y v:BA} (h:Kj P cx st ts b sz off len y=some (v,st')) (hn:b≠x):BY x st st':=by
 unfold Kj at h;split at h
 .split at h
  .split at h
   .split at h
    .obtain ⟨_,h⟩:=Zu h;simp only [Af,Aa] at h;obtain ⟨_,h1,_,rfl⟩:=h;obtain ⟨_,o2,_,_⟩:=Zs h1;show Zb _ x=_;rw [o2];exact Xv st _ hn
    .cases h
   .cases h
  .cases h
 .cases h
theorem Ii {x:Nat} {cx:BK} {st st':St} {ts:List TypeId} {xs:List BA} {v:BA} (h:Cw P cx st ts xs=some (v,st')) (hn: ∀off len cap r,xs≠ .sl x off len cap::r) (hn2: ∀sz off len cap r,xs≠ .sla x sz off len cap::r) (hn3: ∀sz off len r,xs≠ .slv x sz off len::r):BY x st st':=by
 unfold Cw at h
 grind [Ij,IW]
theorem Ih {x floor:Nat} {st st':St} {ts:List TypeId} {xs:List BA} {v:BA} (h:C5 P floor st ts xs=some (v,st')) (hn: ∀off len cap r,xs≠ .sl x off len cap::r):BY x st st':=by
 unfold C5 at h;split at h
 .split at h
  .split at h
   .split at h
    .simp only [Ac,Aa] at h;obtain ⟨_,rfl⟩:=h;rfl
    .have hb:=fun e=>hn _ _ _ _ (congrArg (fun b=>BA.sl b _ _ _::_) e);rcases Yd h with ⟨_,h⟩ | ⟨_,h⟩
     .simp only [Ac,Aa] at h;obtain ⟨_,rfl⟩:=h;rfl
     .obtain ⟨hc,h⟩:=Zu h;split at h
      .obtain ⟨_,h⟩:=Zu h
       grind [Xv]
      .cases h
    .cases h
   .cases h
  .cases h
 .cases h
theorem JJ {S:BD} {R:BF} {lift:Bool} {op:Op} {cx:BK} {st st':St} {v:BA} {x:Nat} (hk:Ze op=.chain) (hx:x<st.next) (hn:BZ op st.eval≠some x) (h:Yu P S R lift op cx st=some (v,st')):BY x st st':=by
 cases op with
 | store t a y=>
  simp only [Yu] at h;split at h
  .rename_i b sz r fo hb;simp only [Af,Aa] at h
   grind [JN,BZ]
  .simp only [Af,Aa] at h
   grind [In,BZ]
 | box t y=>
  unfold Yu at h;simp only at h;obtain ⟨_,h⟩:=Zu h
  grind [Uy]
 | buildSlice t n ps=>exact Kc hx h
 | makeSlice t l c=>
  unfold Yu at h;simp only at h;rcases Yd h with ⟨_,h⟩ | ⟨_,h⟩
  .rcases Yd h with ⟨_,h⟩ | ⟨_,h⟩
   .exact (Vs (st:=st.dropO) hx h)
   .exact (Kg (st:=st.dropO) hx h)
  .exact Vs hx h
 | call c=>
  obtain ⟨callee,args,argTypes⟩:=c;cases callee with
  | builtin b=>
   cases b <;> first
    | (simp [Ze] at hk;done)
    | exact JP hx h (fun off len cap r e=>hn (by simp only [BZ,e])) (fun sz off len cap r e=>hn (by simp only [BZ,e]))
    | exact Ii h (fun off len cap r e=>hn (by simp only [BZ,e])) (fun sz off len cap r e=>hn (by simp only [BZ,e])) (fun sz off len r e=>hn (by simp only [BZ,e]))
    | exact Ih h fun off len cap r e=>hn (by simp only [BZ,e])
  | value f=>simp [Ze] at hk
  | invoke r m=>simp [Ze] at hk
 | _=>simp [Ze] at hk
theorem Xq : ∀(d:Nat) (a:BA) (u:Value),pf d a=true->Zp ρ a u->Zp ρ.bare a u
 | 0,_,_,h,_=>by simp [pf] at h
 | d+1,a,u,h,hr=>by
  cases hr with
  | undef=>simp [pf] at h
  | bool=>exact .bool _
  | int=>exact .int _ _
  | str=>exact .str _
  | mapr=>simp [pf] at h
  | ifbt=>exact .ifbt
  | ifbf=>exact .ifbf _ _
  | agg cs vs hl hh=>simp only [pf,Ao] at h;exact .agg cs vs hl fun i h1 h2=>Xq d _ _ (h _ (Az h1)) (hh i h1 h2)
  | tup cs vs hl hh=>simp only [pf,Ao] at h;exact .tup cs vs hl fun i h1 h2=>Xq d _ _ (h _ (Az h1)) (hh i h1 h2)
  | ptr=>simp [pf] at h
  | nilp=>exact .nilp
  | sl=>simp [pf] at h
  | sla=>simp [pf] at h
  | slan=>simp [pf] at h
  | slv=>simp [pf] at h
  | slve=>simp [pf] at h
  | slvn=>simp [pf] at h
  | nnl=>simp [pf] at h
  | epa=>simp [pf] at h
  | nils=>exact .nils
  | fn f cs vs hl hh=>obtain rfl:cs=[]:=List.isEmpty_iff.1 h;exact .fn f [] vs hl fun i h1=>absurd h1 (Ar _)
  | nilf=>exact .nilf
  | fnb=>simp [pf] at h
  | yld=>simp [pf] at h
  | ifc=>simp [pf] at h
  | nili=>exact .nili
  | dat len get blk base sz cap val aH hsz hv hh=>exact .dat len get blk base sz cap val aH hsz hv hh
  | datn get=>exact .datn get
  | datz get a c=>exact .datz get a c
  | dptr cs blk base val hv hh=>exact .dptr cs blk base val hv hh
def F0 (P:Program) (f:FuncId) (F:List BA->Option (BA×Bool)):Prop:=
 ∀args v,F args=some (v,true)-> ∀(H:B8) (vals:Array Value) (w:World),Yh (Zp (Uc H)) args vals.toList->(∀k o,H k=some o->w.heap[k]? =some o)->C9 H->
  Calls P f vals w fun e w'=> ∃H' u,(∀k o,H k=some o->H' k=some o)/\(∀k o,H' k=some o->w'.heap[k]? =some o)/\(∀k,k<w.heap.size->H' k=H k)/\e=.returned u/\Zp (Uc H') v u/\RowKit.Below w.heap.size w w'
def F2 (P:Program) (f:FuncId) (F:List BA->BI->Option (BA×Nat×BG×Bool)):Prop:=
 ∀args mem v b blk,F args mem=some (v,b,blk,true)->(Zb mem b).isSome =true-> ∀(ρ:BB) (next floor:Nat) (vals:Array Value) (w:World),floor<=b->Yh (Zp ρ) args vals.toList->BC ρ mem next w->
  Calls P f vals w fun e w'=> ∃u,e=.returned u/\Zp ρ v u/\BC ρ (Zt mem b (some blk)) next w'/\Ev ρ ρ floor mem next (Zt mem b (some blk)) next w w'
def CI (H:B8) (l:Option BM):BB:=⟨fun b=>if b=0 then l else none,H,fun _=>none⟩
def Bh (ty:TypeId) (sz n:Nat) (get:Nat->List BA):BI:=Zt .leaf 0 (some ⟨rows n get,ty,some ⟨sz,n,.flat get⟩⟩)
def CR (P:Program) (f:FuncId) (ty:TypeId) (F:Nat->(Nat->List BA)->List BA->Option (Nat×(Nat->List BA)×Bool)):Prop:=
 ∀ (sz n:Nat) (get:Nat->List BA) (r:List BA) (n':Nat) (g:Nat->List BA),F n get r=some (n',g,true)->CM sz n get=true->CM sz n' g=true->1<=sz-> ∀(H:B8) (l:Option BM) (vals:Array Value) (w:World),
  Yh (Zp (CI H l)) (.sla 0 sz 0 n (.un sz)::r) vals.toList->BC (CI H l) (Bh ty sz n get) 1 w->(∀k o,w.heap[k]? =some o->(∃l0,l=some l0/\l0.blk=k)\/H k=some o)->
  Calls P f vals w fun e w'=> ∃ρ' u m' nx b,e=.returned u/\Zp ρ' (.sla b sz 0 n' (.un sz)) u/\Zb m' b=some ⟨rows n' g,ty,some ⟨sz,n',.flat g⟩⟩/\BC ρ' m' nx w'/\
   (∀k o,H k=some o->ρ'.fz k=some o)/\w.heap.size<=w'.heap.size/\w'.os=w.os/\w'.tape=w.tape/\w'.output=w.output
def Cp (P:Program) (f:FuncId):F1->Prop
 | .val F=>F0 P f F
 | .eff F=>F2 P f F
 | .gro ty F=>CR P f ty F
def Ys (P:Program) (S:BD):Prop:=
 ∀f F,S f=some F->(∃fn,P.funcs[f]? =some fn/\fn.body.isSome=true)/\Cp P f F
def GO (P:Program):Prop:=(P.funcs[CK]?).isSome =true-> ∀(b:Nat) (p v:Value) (w:World) (l:List UInt8),l.length<=9223372036854775807->w.heap[b]? =some (.cells #[p,v] Cl (0,0))->
 ((v=.slice none 0 0/\l=[])\/ ∃g o c cur,v=.slice (some ⟨g,o,none⟩) l.length c/\l.length<=c/\w.heap[g]? =some (.cells cur Cj (0,0))/\(l≠ []->o+l.length<=cur.size)/\ ∀j x,l[j]? =some x->cur[o+j]? =some (.int .u8 x.toNat))->
 Calls P CK #[.pointer (some ⟨b,0,none⟩)] w fun e w'=>e=.returned (.string ⟨l.toArray⟩)/\w.heap.size<=w'.heap.size/\
  (∀k o,w.heap[k]? =some o->(∀g o n c,v=.slice (some ⟨g,o,none⟩) n c->g≠k)->w'.heap[k]? =some o)/\w'.os=w.os/\w'.tape=w.tape/\w'.output=w.output
def Va (P:Program):Prop:=(∀(f:FuncId) (fn:Func),P.funcs[f]? =some fn->fn.body.isSome=true->(fn.name == "runtime.NumGoroutine")=false)/\GO P
def Bp (P:Program) (R:BF):Prop:=
 ∀ cx todo st st',cx.floor<=st.next->R cx todo st=some st'->st'.ob=true-> ∀(ρ:BB) (a:Act) (w:World) (b:Frame) (cs:List Frame),a.defers=[]->Yv ρ st.env cx.n a.tmps->BC ρ st.mem st.next w->
  ∃ρ' a' todo' w',Steps P (lone (b.at a todo) cs w) (lone {b.at a' todo' with mode:=.returning} cs w')/\a'.defers=[]/\Yv ρ' st'.env cx.n a'.tmps/\BC ρ' st'.mem st'.next w'/\
   Ev ρ ρ' cx.floor st.mem st.next st'.mem st'.next w w'
theorem Qi : ∀(args:List BA) (i:Nat) (t:T BA) (k:Nat),T.get .undef (Qn args i t) k=if i<=k/\k<i+args.length then args.getD (k - i) .undef else T.get .undef t k
 | [],i,t,k=>by rw [Aj (by grind)];rfl
 | a::r,i,t,k=>by
  simp only [Qn];rw [Qi r (i+1) _ k,T.get_set];by_cases h1:k=i
  .subst h1;rw [Aj (by omega),Ap rfl,Ap (by simp)];simp
  .by_cases h2:i+1<=k/\k<i+1+r.length
   .rw [Ap h2,Ap (by simp;omega)];have:k - i=(k - (i+1))+1:=(by omega);rw [this];simp
   .rw [Aj h2,Aj h1,Aj (by simp;omega)]
def DN (tmps:Array Value):ResultVar->Sem Value
 | .tmp t=>pure (tmps.getD t undef)
 | .cell a t=>do loadVar t (<-asAddr (tmps.getD a undef))
theorem I5 (fn:Func) (tmps:Array Value):results fn tmps=(do
  let vs<-fn.results.mapM (DN tmps)
  pure (if h:vs.size=1 then vs[0] else .tuple vs)):=by
 unfold results;have:(fun r:ResultVar=>(match r with | .tmp t=>pure (tmps.getD t undef) | .cell a t=>do loadVar t (<-asAddr (tmps.getD a undef)):Sem Value))=DN tmps:=by
  funext r
  cases r <;> rfl
 rw [<-this];rfl
theorem JU {st:St} {w:World} {tmps:Array Value} {n:Nat} (aD:Yv ρ st.env n tmps) (aA:BC ρ st.mem st.next w) {r:ResultVar} {v:BA} (h:F9 P st r=some v):
  ∃u,Zp ρ v u/\(DN tmps r).run P w=.ok u w:=by
 have get: ∀t,Zp ρ (st.tmp t) (tmps.getD t undef):=fun t=>aD.get t;cases r with
 | tmp t=>simp only [F9,Ac] at h;subst h;exact ⟨_,get t,rfl⟩
 | cell a t=>
  simp only [F9] at h;obtain ⟨z,hz,hr⟩:=Hk aA h (get a);refine ⟨z,hz,?_⟩;have ha:=get a;unfold DN;simp only;generalize tmps.getD a undef=u at ha hr ⊢;unfold CT at h;split at h
  .rename_i e;rw [e] at ha;cases ha
   grind [Instr.loadAt,Instr.sureAddr,asAddr]
  .rename_i e;rw [e] at ha;cases ha
   grind [Instr.loadAt,Instr.sureAddr,asAddr]
  .cases h
theorem Up {st:St} {w:World} {tmps:Array Value} {n:Nat} (aD:Yv ρ st.env n tmps) (aA:BC ρ st.mem st.next w): ∀{rs:List ResultVar} {vs:List BA},aResults P st rs=some vs->
  ∃us,Yh (Zp ρ) vs us/\(rs.mapM (DN tmps)).run P w=.ok us w
 | [],vs,h=>by simp only [aResults,Ac] at h;subst h;exact ⟨[],.nil,by simp⟩
 | r::rs,vs,h=>by
  unfold aResults at h;split at h
  .rename_i v vs' h1 h2;obtain rfl:=Ab h;obtain ⟨u,hu,hr⟩:=JU aD aA h1;obtain ⟨us,hus,hrs⟩:=Up aD aA h2;refine ⟨u::us,.cons hu hus,?_⟩;rw [List.mapM_cons,Sem.run_bind,hr];simp only [Result.andThen_ok,Sem.run_bind,hrs,Sem.run_pure]
  .cases h
theorem Wt {fn:Func} {st:St} {w:World} {tmps:Array Value} {n:Nat} (aD:Yv ρ st.env n tmps) (aA:BC ρ st.mem st.next w) {vs:List BA} (h:aResults P st fn.results.toList=some vs):
  ∃u,Zp ρ (DA vs) u/\(results fn tmps).run P w=.ok u w:=by
 obtain ⟨us,hus,hr⟩:=Up aD aA h;refine ⟨if h:us.toArray.size=1 then us.toArray[0] else .tuple us.toArray,?_,?_⟩
 .cases hus with
  | nil=>exact .tup [] _ rfl fun i h1 _=>by simp at h1
  | cons h1 hs=>cases hs with
   | nil=>simpa [DA] using h1
   | cons h2 hs=>have bC:=Yh.cons h1 (Yh.cons h2 hs);have hl:=bC.length;simp only [DA];rw [dif_neg (by simp)];exact .tup _ _ (by grind) fun i h1 h2=>by simpa using bC.get i h1 (by grind)
 .rw [I5,Sem.run_bind,Array.mapM_eq_mapM_toList,Sem.run_map,hr];rfl
theorem Qh {args:List BA} {vals:Array Value} (h:Yh (Zp ρ) args vals.toList) (ntmps:Nat):
  Yv ρ (Qn args 0 .leaf) (Nat.max ntmps args.length) (vals++Array.replicate (ntmps - vals.size) undef):=by
 have hl:args.length=vals.size:=by simpa using h.length
 have hmax:Nat.max ntmps args.length=vals.size+(ntmps - vals.size):=by
  grind
 refine ⟨by grind,fun i=> ?_,fun i hi=> ?_⟩
 .rw [Qi];by_cases hi:i<args.length
  .rw [Ap (by omega)];have h2:i<vals.toList.length:=by grind
   have:=h.get i hi h2;have e1:args.getD (i - 0) .undef =args[i]:=by simp [hi]
   have e2:(vals++Array.replicate (ntmps - vals.size) undef).getD i undef=vals.toList[i]:=by have h3:i<vals.size:=(by grind);simp [Array.getElem?_append,h3]
   grind
  .rw [Aj (by omega)];exact .undef _
 .have hle:args.length<=Nat.max ntmps args.length:=Nat.le_max_right _ _;rw [Qi,Aj (by omega)];rfl
theorem Xo {f:FuncId} {fn:Func} (hN:Va P) (hf:P.funcs[f]? =some fn) (hb:fn.body.isSome=true) (args:Array Value) (w:World):(callFunc f args).run P w=.ok (.enter f args) w:=by
 have h1: ¬fn.name= "runtime.NumGoroutine" :=by simpa using hN.1 f fn hf hb
 have h2: ¬fn.body=none:=by grind
 simp [callFunc,hf,h1,h2]
theorem JC {mem:BI} {next:Nat} {w:World} (h:BC ρ mem next w) {a a':BA} {o:Bool} (hv:GV P mem a=(a',o)) (ho:o=true) {u:Value} (hr:Zp ρ a u) (hp:pf 3 a'=true):Zp (Uc fun k=>w.heap[k]?) a' u:=by
 subst ho;have hle:ρ.bare.le (Uc fun k=>w.heap[k]?):=⟨fun _ _ e=>(by cases e),fun k o e=>h.old k o e,fun _ _ e=>(by cases e)⟩
 unfold GV at hv;split at hv
 .rename_i b sz off len cap;split at hv
  .rename_i blk hm;split at hv
   .rename_i A hA;simp only [Aa,Ag,An] at hv;obtain ⟨rfl,h1,h2,h3⟩:=hv;obtain rfl:=Ae h1;have h3:= @AN _ (Classical.propDecidable _) h3;cases hr with
    | slan=>exact .datn _
    | sla _ _ _ _ _ l c hρ aH aC=>
     obtain ⟨bF,bX,aM⟩:=(h.blk b l blk hρ hm).arr A hA;obtain ⟨cur,el,hh,_⟩:=((h.blk b l blk hρ hm).rows hA).cells;refine .dat len _ l.blk (l.base+off*A.sz) A.sz c (fun i j=>(w.cell? ⟨l.blk,l.base+(off+i)*A.sz+j,none⟩).getD undef) aC (fun i hi=>aM _ (by omega)) (fun i j hi hj=> ?_) (fun i j hi hj=> ?_)
     .obtain ⟨v,e1,e2⟩:=(h.rowAt hρ hm hA (r:=off+i) (by omega)) j hj;simp only [e1,Option.getD_some];exact (Xq 6 _ _ (Ao.1 (h3 (off+i)) _ (Az hj)) e2).mono hle
     .obtain ⟨v,e1,e2⟩:=(h.rowAt hρ hm hA (r:=off+i) (by omega)) j (by grind);simp only [e1,Option.getD_some];refine ⟨cur,el,(0,0),hh,?_⟩
      grind [World.cell?]
   grind [pf]
  grind [pf]
 .rename_i b off len cap;split at hv
  .rename_i blk hm;split at hv
   .rename_i inf _;simp only [Aa,Ag,AB] at hv;obtain ⟨rfl,h0,h1,h3⟩:=hv;have h1:=Ad h1;generalize inf.size=sz at h1 hp ⊢;cases hr with
    | sl _ _ _ _ l c hρ aH aC=>
     obtain ⟨cs,el,hh,_,hc⟩:=((h.blk b l blk hρ hm).at h0).cells;have hlt: ∀i,i<len->off+i*sz+sz<=blk.cells.length:=fun i hi=>by have:=Ak sz (show i+1<=len by omega);rw [Nat.succ_mul] at this;omega
     have hl: ∀i,i<len->((blk.cells.drop (off+i*sz)).take sz).length =sz:=fun i hi=>by have:=hlt i hi;rw [List.length_take,List.length_drop];omega
     refine .dat len _ l.blk (l.base+off) sz c (fun i j=>(cs[l.base+(off+i*sz+j)]?).getD undef) aC hl (fun i j hi hj=> ?_) (fun i j hi hj=> ?_)
     .have h4:=hlt i hi;have hj':=hj;rw [hl i hi] at hj';obtain ⟨v,e1,e2⟩:=hc (off+i*sz+j) (by omega);simp only [e1,Option.getD_some];have e3:((blk.cells.drop (off+i*sz)).take sz)[j]=blk.cells[off+i*sz+j]'(by omega):=by rw [List.getElem_take,List.getElem_drop]
      rw [e3];exact (Xq 6 _ _ (Ao.1 h3 _ (Az _)) e2).mono hle
     .have h4:=hlt i hi;obtain ⟨v,e1,e2⟩:=hc (off+i*sz+j) (by omega);simp only [e1,Option.getD_some];refine ⟨cs,el,(0,0),hh,?_⟩;rw [<-e1]
      congr 1
      omega
   grind [pf]
  grind [pf]
 .simp only [Aa] at hv;obtain ⟨rfl,_⟩:=hv;exact (Xq 3 _ _ hp hr).mono hle
theorem JB {mem:BI} {next:Nat} {w:World} (h:BC ρ mem next w) {az:List BA} {us:List Value} (hr:Yh (Zp ρ) az us): ∀{az':List BA} {o:Bool},DF P mem az=(az',o)->o=true->az'.all (pf 3)=true->Yh (Zp (Uc fun k=>w.heap[k]?)) az' us:=by
 induction hr with
 | nil=>intro az' o hv _ _;simp only [DF,Aa] at hv;obtain ⟨rfl,_⟩:=hv;exact .nil
 | @cons a b l m h1 _ ih=>intro az' o hv ho hp;unfold DF at hv;split at hv;rename_i a1 o1 as1 q1 e1 e2;simp only [Aa] at hv;obtain ⟨rfl,rfl⟩:=hv;simp only [Ag] at ho;simp only [List.all_cons,Ag] at hp;exact .cons (JC h e1 ho.1 h1 hp.1) (ih e2 ho.2 hp.2)
theorem I6 {σ:BB} {v:BA} {u:Value} (hs:scal v=true) (h:Zp σ v u):Zp ρ v u:=by
 cases h with
 | bool=>exact .bool _
 | int=>exact .int _ _
 | str=>exact .str _
 | ifbt=>exact .ifbt
 | ifbf=>exact .ifbf _ _
 | tup cs vs hl hh=>
  simp only [scal,Ao] at hs;refine .tup cs vs hl fun i h1 h2=> ?_;have k1:=hs _ (Az h1);have k2:=hh i h1 h2;generalize cs[i]=a at k1 k2;generalize vs[i]=b at k2;cases k2 with
  | undef=>exact .undef _
  | bool=>exact .bool _
  | int=>exact .int _ _
  | str=>exact .str _
  | ifbt=>exact .ifbt
  | ifbf=>exact .ifbf _ _
  | _=>simp at k1
 | _=>simp [scal] at hs
theorem Ht {sz n:Nat} {get:Nat->List BA} (h:CM sz n get=true): ∀i,i<n->(get i).length =sz/\(get i).all pl=true:= @AN _ (Classical.propDecidable _) h
theorem Gw {sz n:Nat} {get:Nat->List BA} (h:CM sz n get=true): ∀v∈rows n get,pl v=true:=fun v hv=>by
 obtain ⟨i,hi,hv⟩:=List.mem_flatMap.1 hv
 grind [Ht]
theorem Cd {v:BA} {u:Value} {ρ':BB} (h:pl v=true) (hr:Zp ρ v u):Zp ρ' v u:=by
 cases hr <;> first | exact .bool _ | exact .int _ _ | (cases h;done)
theorem Ya.pl {w:World} {ab:BG} {l:BM} (h:Ya ρ w ab l) (hp: ∀v∈ab.cells,pl v=true) (ρ':BB):Ya ρ' w ab l:=by
 cases h with
 | plain h=>
  obtain ⟨h0,h1,h2,h3,cs,el,h4,h5,h6⟩:=h;refine .plain ⟨h0,h1,h2,h3,cs,el,h4,h5,fun i hi=> ?_⟩
  grind [Cd]
 | obj o r ty h n z=>subst h;have:=hp _ (A2 ..);cases this
theorem IF {f:FuncId} {F:Nat->(Nat->List BA)->List BA->Option (Nat×(Nat->List BA)×Bool)} {ty:TypeId} (hF:CR P f ty F) {floor next:Nat} {mem:BI} {b sz n:Nat} {r:List BA} {cells:List BA} {A:B2} (hm:Zb mem b=some ⟨cells,ty,some A⟩)
  (hA:A.sz=sz/\A.n=n) (hr:r.all (pf 3)=true) (hfl:floor<=b) (hsz:1<=sz) {n':Nat} {g:Nat->List BA} (hv:F n A.get r=some (n',g,true)) (hp:CM sz n A.get=true) (hp':CM sz n' g=true)
  {vals:Array Value} (aE:Yh (Zp ρ) (.sla b sz 0 n (.un sz)::r) vals.toList) {w:World} (aA:BC ρ mem next w):
  Calls P f vals w fun e w'=> ∃ρ' u,e=.returned u/\Zp ρ' (.sla next sz 0 n' (.un sz)) u/\BC ρ' (Zt (Zt mem b none) next (some ⟨rows n' g,ty,some ⟨sz,n',.flat g⟩⟩)) (next+1) w'/\
   Ev ρ ρ' floor mem next (Zt (Zt mem b none) next (some ⟨rows n' g,ty,some ⟨sz,n',.flat g⟩⟩)) (next+1) w w':=by
 obtain ⟨rfl,rfl⟩:=hA;have hbn:b<next:=by
  rcases AF b next with h | h
  .exact h
  .rw [aA.bd b h] at hm;cases hm
 let H:B8:=fun k=>if∃l,ρ b=some l/\l.blk=k then none else w.heap[k]?
 have hH: ∀k,(¬ ∃l,ρ b=some l/\l.blk=k)->H k=w.heap[k]? :=fun k hk=>Aj hk;have hHs: ∀k o,H k=some o->w.heap[k]? =some o/\ ¬ ∃l,ρ b=some l/\l.blk=k:=fun k o e=>by
  by_cases hk: ∃l,ρ b=some l/\l.blk=k;all_goals grind
 have hfz: ∀k o,ρ.fz k=some o->H k=some o:=fun k o e=>by
  rw [hH k fun ⟨l,h1,h2⟩=>by
   have:=aA.sep b l h1 (by rw [hm];rfl)
   grind]
  exact aA.old k o e
 have hbare:ρ.bare.le (CI H (ρ b)):=⟨fun _ _ e=>(by cases e),hfz,fun _ _ e=>(by cases e)⟩
 have key: ∀(n0:Nat) (u:Value),Zp ρ (.sla b A.sz 0 n0 (.un A.sz)) u->Zp (CI H (ρ b)) (.sla 0 A.sz 0 n0 (.un A.sz)) u:=fun n0 u h1=>by
  cases h1 with
  | sla _ _ _ _ _ l c h hc aC=>exact .sla 0 _ 0 _ _ l c (by show (if (0:Nat)=0 then ρ b else none)=_;grind) hc aC
  | slan _ _ _ _=>exact .slan _ _ _ _
 have hargs1:Yh (Zp (CI H (ρ b))) (.sla 0 A.sz 0 A.n (.un A.sz)::r) vals.toList:=by
  generalize vals.toList=us at aE;cases aE with
  | cons h1 h2=>
   refine .cons ?_ ?_
   .grind
   .exact Yh.of h2.length fun i g1 g2=>(Xq 3 _ _ (Ao.1 hr _ (Az g1)) (h2.get i g1 g2)).mono hbare
 have hget0: ∀l,CI H (ρ b) 0=some l↔ρ b=some l:=fun l=>Iff.rfl;have aP: ∀c l,CI H (ρ b) c=some l->c=0/\ρ b=some l:=fun c l e=>by
  have e:(if c=0 then ρ b else none)=some l:=e
  grind
 have hm1:Zb (Bh ty A.sz A.n A.get) 0=some ⟨rows A.n A.get,ty,some ⟨A.sz,A.n,.flat A.get⟩⟩:=Zq _ _ _;have aO:BC (CI H (ρ b)) (Bh ty A.sz A.n A.get) 1 w:=by
  refine ⟨fun c l e=>by grind,fun c c' l l' e e' _ _ _=>by grind,fun c l ab e hc=> ?_,fun k o e=>(hHs k o e).1,fun c l e _=> ?_,fun c l e=>aA.real b l (aP c l e).2,fun c hc=> ?_,⟨fun j l e=>(by cases e),aA.ldom.2.mono hfz⟩⟩
  .obtain ⟨rfl,e2⟩:=aP c l e;rw [hm1] at hc;obtain rfl:=Ab hc;have q:=(aA.blk b l _ e2 hm).rows rfl;obtain ⟨q0,q1,q2,q3,cs,el,q4,q5,q6⟩:=q;obtain ⟨a1,a2,a3⟩:=q3 A rfl;simp only at a1;subst a1;have q':Ya ρ w ⟨rows A.n A.get,ty,some ⟨A.sz,A.n,.flat A.get⟩⟩ l:=.plain ⟨q0,q1,q2,fun B e=>by
    obtain rfl:=Ab e;exact ⟨rfl,a2,a3⟩,cs,el,q4,q5,q6⟩
   exact q'.pl (Gw hp) _
  .obtain ⟨_,e2⟩:=aP c l e;exact Ap ⟨l,e2,rfl⟩
  .show Zb (Zt .leaf 0 _) c=none;rw [Zx _ _ (by omega)];rfl
 have bC: ∀k o,w.heap[k]? =some o->(∃l0,ρ b=some l0/\l0.blk=k)\/H k=some o:=fun k o e=>by
  grind
 refine (hF A.sz A.n A.get r n' g hv hp hp' hsz H (ρ b) vals w hargs1 aO bC).mono fun e w' ⟨ρ1,u,m',nx,b1,he,hu,hmb,hr1,hfz1,hsize,hos,htape,hout⟩=> ?_;have hgone: ∀k,(¬ ∃l,ρ b=some l/\l.blk=k)-> ∀o,w.heap[k]? =some o->w'.heap[k]? =some o/\ρ1.fz k=some o:=fun k hk o e=>by have h2:=hfz1 k o ((hH k hk).trans e);exact ⟨hr1.old k o h2,h2⟩
 let ρ':BB:=⟨fun c=>if c=next then ρ1 b1 else ρ c,ρ.fz,ρ.lp⟩
 have aG: ∀c l,ρ' c=some l->(c=next/\ρ1 b1=some l)\/(c≠next/\ρ c=some l):=fun c l e=>by
  grind
 have hnew:ρ' next=ρ1 b1:=Ap rfl
 have holdc: ∀c,c<next->ρ' c=ρ c:=fun c hc=>Aj (by omega)
 have hle:ρ.le ρ':=⟨fun c l e=>by rw [holdc c (aA.dom c l e)];exact e,fun _ _ e=>e,fun _ _ e=>e⟩
 have hm': ∀c,c≠next->Zb (Zt (Zt mem b none) next (some ⟨rows n' g,ty,some ⟨A.sz,n',.flat g⟩⟩)) c=if c=b then none else Zb mem c:=fun c hc=>by
  grind [Zx,Zq]
 have hmn:Zb (Zt (Zt mem b none) next (some ⟨rows n' g,ty,some ⟨A.sz,n',.flat g⟩⟩)) next=some ⟨rows n' g,ty,some ⟨A.sz,n',.flat g⟩⟩:=Zq _ _ _
 have hother: ∀c l,ρ c=some l->(Zb mem c).isSome =true->c≠b-> ¬ ∃l',ρ b=some l'/\l'.blk=l.blk:=fun c l e hs hcb ⟨l',e',hb⟩=>hcb (aA.inj c b l l' e e' hb.symm hs (by rw [hm];rfl));have hsome: ∀c l,ρ c=some l-> ∃o,w.heap[l.blk]? =some o:=fun c l e=>⟨_,AY (aA.real c l e)⟩
 have hsepn: ∀l,ρ1 b1=some l->ρ1.fz l.blk=none:=fun l e=>hr1.sep b1 l e (by rw [hmb];rfl);have aU:Zp ρ' (.sla next A.sz 0 n' (.un A.sz)) u:=by
  cases hu with
  | sla _ _ _ _ _ l c h hc aC=>exact .sla next _ 0 _ _ l c (hnew.trans h) hc aC
  | slan _ _ _ _=>exact .slan _ _ _ _
 refine ⟨ρ',u,he,aU,?_,?_⟩
 .refine ⟨fun c l e=> ?_,fun c c' l l' e e' hbl hs hs'=> ?_,fun c l ab e hc=> ?_,fun k o e=> ?_,fun c l e hs=> ?_,fun c l e=> ?_,fun c hc=> ?_,⟨fun j l e=>AE (aA.ldom.1 j l e),aA.ldom.2⟩⟩
  .rcases aG c l e with ⟨rfl,_⟩ | ⟨_,e⟩
   .omega
   .have:=aA.dom c l e;omega
  .have clash: ∀c l l',c≠next->ρ c=some l->ρ1 b1=some l'->l.blk=l'.blk->(Zb (Zt (Zt mem b none) next (some ⟨rows n' g,ty,some ⟨A.sz,n',.flat g⟩⟩)) c).isSome =true->False:=fun c l l' hc e e' hbl hs=>by
    grind
   rcases aG c l e with ⟨h1,h2⟩ | ⟨h1,h2⟩ <;> rcases aG c' l' e' with ⟨h1',h2'⟩ | ⟨h1',h2'⟩
   .rw [h1,h1']
   .grind
   .grind
   .rw [hm' c h1] at hs;rw [hm' c' h1'] at hs';by_cases hcb:c=b
    .grind
    .by_cases hcb':c'=b
     .grind
     .rw [Aj hcb] at hs;rw [Aj hcb'] at hs';exact aA.inj c c' l l' h2 h2' hbl hs hs'
  .rcases aG c l e with ⟨h1,h2⟩ | ⟨h1,h2⟩
   .subst h1;rw [hmn] at hc;obtain rfl:=Ab hc;have q:=(hr1.blk b1 l _ h2 hmb).pl (Gw hp') ρ';exact .plain ⟨(q.rows rfl).typ,q.n,q.tot,q.arr,(q.rows rfl).cells⟩
   .rw [hm' c h1] at hc;by_cases hcb:c=b
    .grind
    .rw [Aj hcb] at hc;obtain ⟨o,ho⟩:=hsome c l h2;refine (aA.blk c l ab h2 hc).world hle ?_;rw [(hgone l.blk (hother c l h2 (by rw [hc];rfl) hcb) o ho).1,ho]
  .have h1:=hfz k o e;obtain ⟨h2,h3⟩:=hHs k o h1;exact (hgone k h3 o h2).1
  .rcases aG c l e with ⟨h1,h2⟩ | ⟨h1,h2⟩
   .cases hq:ρ.fz l.blk with
    | none=>rfl
    | some o=>
     grind
   .rw [hm' c h1] at hs;by_cases hcb:c=b
    .grind
    .rw [Aj hcb] at hs;exact aA.sep c l h2 hs
  .rcases aG c l e with ⟨h1,h2⟩ | ⟨h1,h2⟩
   .exact hr1.real b1 l h2
   grind
  .rw [hm' c (by omega),Aj (by omega)];exact aA.bd c (by omega)
 .refine ⟨hle,fun c hc=>holdc c hc,by omega,fun c hc hn cs ty2 hq=> ?_,fun k o hk hn=> ?_,fun c l hc e=> ?_,hsize,hos,htape,hout,fun k _=>rfl⟩
  .grind
  .exact (hgone k (fun ⟨l,h1,h2⟩=>hn b l h1 hfl h2) o hk).1
  .rcases aG c l e with ⟨h1,h2⟩ | ⟨h1,h2⟩
   .rcases AF l.blk w.heap.size with h | h
    .rcases bC l.blk _ (AY h) with ⟨l0,h3,h4⟩ | h3;all_goals grind
    grind
   grind
theorem Hi {S:BD} {R:BF} (hS:Ys P S) (hR:Bp P R) {lift:Bool} {f:FuncId} {args:List BA} {cx:BK} {st st':St} {v:BA} (hcx:cx.floor<=st.next) (h:Cr P S R lift f args cx st=some (v,st')) (hob:st'.ob=true)
  {vals:Array Value} (aE:Yh (Zp ρ) args vals.toList) {w:World} (aA:BC ρ st.mem st.next w):
  (∃fn,P.funcs[f]? =some fn/\fn.body.isSome=true)/\Calls P f vals w fun e w'=> ∃ρ' u,e=.returned u/\BU ρ cx.floor st st' v w ρ' u w':=by
 unfold Cr at h;split at h
 .rename_i F hF;rcases Yd h with ⟨hca,h⟩ | ⟨_,h⟩
  .split at h
   .rename_i v' b hFa;obtain ⟨hc2,h⟩:=Zu h;have hc1:=Ao.1 hca;simp only [Af,Aa] at h;obtain ⟨st1,h1,rfl,rfl⟩:=h;obtain ⟨_,e2,e3,e4⟩:=Zs h1;obtain ⟨rfl,_⟩:=e4 hob;obtain ⟨hfn,bD⟩:=hS f _ hF;refine ⟨hfn,?_⟩;have hargs0:Yh (Zp ρ.bare) args vals.toList:=Yh.of aE.length fun i g1 g2=>Xq 3 _ _ (hc1 _ (Az g1)) (aE.get i g1 g2);refine (bD args v' hFa ρ.fz vals w hargs0 aA.old aA.ldom.2).mono fun e w' ⟨H',u,hle,hold,aS,he,hv,hb⟩=>⟨⟨ρ.f,H',ρ.lp⟩,u,he,Zp.mono (ρ:=Uc H') (ρ':=⟨ρ.f,H',ρ.lp⟩) ⟨fun _ _ e=>(by cases e),fun _ _ e=>e,fun _ _ e=>(by cases e)⟩ hv,?_,?_⟩
    .rw [e2,e3];have hle':ρ.le ⟨ρ.f,H',ρ.lp⟩:=⟨fun _ _ e=>e,hle,fun _ _ e=>e⟩
     exact ⟨aA.dom,aA.inj,fun b l ab q1 q2=>(aA.blk b l ab q1 q2).world hle' (hb.block _ (aA.real b l q1)),hold,fun b l q hs=>(aS _ (aA.real b l q)).trans (aA.sep b l q hs),fun b l q=>Av (aA.real b l q) hb.size,aA.bd,aA.ldom.1,aA.ldom.2.mono hle⟩
    .rw [e2,e3];exact ⟨⟨fun _ _ e=>e,hle,fun _ _ e=>e⟩,fun _ _=>rfl,Ah _,fun _ _ _ _ _ h=>h,fun k o hk _=>by rw [hb.block k (Al.1 hk).1];exact hk,
      fun b l hb' hl=>by grind,hb.size,hb.os,hb.tape,hb.output,aS⟩
   .cases h
  .split at h;rename_i args' o hview;split at h
   .rename_i v' b hFa;obtain ⟨hc,h⟩:=Zu h;simp only [Ag] at hc;simp only [Af,Aa] at h;obtain ⟨st1,h1,rfl,rfl⟩:=h;obtain ⟨_,e2,e3,e4⟩:=Zs h1;obtain ⟨hob1,_⟩:=e4 hob;simp only [Ag] at hob1;obtain ⟨ho,rfl⟩:=hob1;obtain ⟨hfn,bD⟩:=hS f _ hF;refine ⟨hfn,?_⟩;have hargs0:=JB aA aE hview ho hc.1;refine (bD args' v' hFa (fun k=>w.heap[k]?) vals w hargs0 (fun _ _ e=>e) (aA.ldom.2.mono aA.old)).mono fun e w' ⟨H',u,hle,hold,aS,he,hv,hb⟩=>⟨ρ,u,he,I6 hc.2 hv,?_,?_⟩
    .rw [e2,e3];exact ⟨aA.dom,aA.inj,fun b l ab q1 q2=>(aA.blk b l ab q1 q2).world (BB.le_refl _) (hb.block _ (aA.real b l q1)),fun k o q=>by rw [hb.block k (Al.1 (aA.old k o q)).1];exact aA.old k o q,aA.sep,fun b l q=>Av (aA.real b l q) hb.size,aA.bd,aA.ldom⟩
    .rw [e2,e3];exact ⟨BB.le_refl _,fun _ _=>rfl,Ah _,fun _ _ _ _ _ h=>h,fun k o hk _=>by grind,
      fun b l hb' hl=>by grind,hb.size,hb.os,hb.tape,hb.output,fun _ _=>rfl⟩
   .cases h
 .rename_i F hF;split at h
  .rename_i v0 b blk o hFa;split at h
   .rename_i ab hm;obtain ⟨hc,h⟩:=Zu h;simp only [Ag] at hc;simp only [Af,Aa] at h;obtain ⟨st1,h1,rfl,rfl⟩:=h;obtain ⟨_,e2,e3,e4⟩:=Zs h1;obtain ⟨rfl,_⟩:=e4 hob;obtain ⟨hfn,bD⟩:=hS f _ hF;refine ⟨hfn,?_⟩;refine (bD args st.mem v0 b blk hFa (by rw [hm];rfl) ρ st.next cx.floor vals w (Ad hc.2) aE aA).mono fun e w' ⟨u,he,hv,hr,hev⟩=>⟨ρ,u,he,hv,?_,?_⟩
    .rw [e2,e3];exact hr
    .rw [e2,e3];exact hev
   .cases h
  .cases h
 .rename_i ty0 F hF;split at h
  .rename_i b sz n sz' r;split at h
   .rename_i cells ty A hm;obtain ⟨hc,h⟩:=Zu h;simp only [Ag] at hc;obtain ⟨⟨c0,c1,c2⟩,c4,c5,c6⟩:=hc;have c0:=Ae c0;split at h
    .rename_i n' g o hFa;simp only [Af,Aa] at h;obtain ⟨st1,h1,rfl,rfl⟩:=h;obtain ⟨env,mem,next,orc,ob⟩:=st;simp only at h1 hm hcx aA ⊢;obtain ⟨_,e2,e3,e4⟩:=Zs h1;obtain ⟨hob1,_⟩:=e4 hob;simp only [Ag] at hob1;obtain ⟨rfl,c3,hp,hp'⟩:=hob1;obtain ⟨hfn,bD⟩:=hS f _ hF;rw [<-c0] at bD;obtain rfl:=Ae c1;refine ⟨hfn,?_⟩;refine (IF bD hm ⟨Ae c2,Ae c3⟩ c4 (Ad c5) (Ad c6) hFa hp hp' aE aA).mono fun e w' ⟨ρ',u,he,hv,hr,hev⟩=>⟨ρ',u,he,hv,?_,?_⟩
     all_goals grind
    .cases h
   .cases h
  .cases h
 .split at h
  .rename_i fn hf;split at h
   .rename_i body hb;split at h
    .rename_i st2 hr;split at h
     .rename_i vs hvs;simp only [Ac,Aa] at h;obtain ⟨rfl,rfl⟩:=h;refine ⟨⟨fn,hf,by rw [hb];rfl⟩,?_⟩;intro cs
      let b:Frame:={(default:Frame) with fn:=f,kind:=.normal}
      have bU:Frame.enter P f vals .normal =b.at {tmps:=vals++Array.replicate (fn.ntmps - vals.size) undef,defers:=[]} [.code body]:=by simp [Frame.enter,Frame.at,hf,hb,b]
      obtain ⟨ρ',a',todo',w',aN,hd,aD,aT,hev⟩:=hR _ _ _ _ (by
       cases lift with
       | false=>exact hcx
       | true=>exact Ah _) hr hob ρ {tmps:=vals++Array.replicate (fn.ntmps - vals.size) undef,defers:=[]} w b cs rfl (Qh aE fn.ntmps) aA
      obtain ⟨u,hu,hres⟩:=Wt aD aT hvs;rw [<-bU] at aN;refine ⟨.returned u,w',_,⟨ρ',u,rfl,hu,aT,?_⟩,aN,rfl,rfl,hd,rfl,fn,hf,hres⟩;refine hev.lower ?_
      grind
     .cases h
    .cases h
   .cases h
  .cases h
theorem JT {S:BD} {R:BF} (hN:Va P) (hS:Ys P S) (hR:Bp P R) {lift:Bool} {o:Oper} {cx:BK} {st st':St} {v:BA} (hcx:cx.floor<=st.next)
  (h:Yu P S R lift o.op cx st=some (v,st')) (hob:st'.ob=true) {ev:Operand->BA} (hev: ∀x,x∈o.op.operands->ev x=st.eval x) {a:Act} (hr:Xk ρ ev a.eval o.op) {w:World} (aA:BC ρ st.mem st.next w):
  C8 P o a w (BU ρ cx.floor st st' v w):=by
 obtain ⟨dst,op,type,pos,after,guard⟩:=o;simp only at h hr hev
 replace hr:Xk ρ st.eval a.eval op:=fun x hx=>by rw [<-hev x hx];exact hr x hx
 clear hev;unfold Yu at h;split at h
 .rename_i t x;split at h
  .rename_i v' b st0 hv;obtain ⟨l1,l2,l3,l4⟩:=Vm hv;simp only [Af,Aa] at h;obtain ⟨st1,h1,rfl,rfl⟩:=h;obtain ⟨e1,e2,e3,e4⟩:=Zs h1;obtain ⟨rfl,hob0⟩:=e4 hob;obtain ⟨z,hz,aB⟩:=Kv aA (l4 hob0).1 (hr x (by simp [Op.operands]));exact .inl ⟨ρ,z,w,by simp [execOp,aB],hz,by grind,by rw [e2,e3,l2,l3];exact Ev.refl _ _ _ _ _ aA.dom⟩
  .cases h
 .rename_i t;simp only [Af,Aa] at h;obtain ⟨z,hz,rfl,rfl⟩:=h;obtain ⟨_,zv,_,_,hzr,hzv⟩:=Yy (ρ:=ρ) hz;refine .inl ⟨_,.pointer (some ⟨w.heap.size,0,none⟩),_,?_,Uw aA cx.floor z t zv.cells t (by rw [hzr.1];grind) hzr.2 _ _ fun ρ' hρ'=>.ptr _ 0 _ hρ'⟩;simp_all [execOp,Instr.alloc,newVar,newRow]
 .rename_i t x;obtain ⟨hbx,h⟩:=Zu h;simp only [Ac,Aa] at h;obtain ⟨rfl,rfl⟩:=h;have hc:=(hr x (by simp [Op.operands])).cells hbx;refine .inl ⟨_,.pointer (some ⟨w.heap.size,0,none⟩),_,?_,Uw aA cx.floor _ t (a.eval x).cells t (by rw [hc.1];grind) hc.2 _ _ fun ρ' hρ'=>.ptr _ 0 _ hρ'⟩;simp [execOp,Instr.box,newVar,newRow]
 .rename_i t len parts;obtain ⟨ρ',u,w',aB,hp,_,_⟩:=Js aA cx.floor h (Vy parts.toList fun p hp=>hr p.2 (by grind [Op.operands]));refine .inl ⟨ρ',u,w',?_,hp⟩;have:(parts.map fun (i,x)=>(i,a.eval x))=(parts.toList.map fun p=>(p.1,a.eval p.2)).toArray :=by
   grind
  simp [execOp,this,aB]
 .rename_i t x y;split at h
  .rename_i b sz r fo hb;simp only [Af,Aa] at h;obtain ⟨st1,h,rfl,rfl⟩:=h;have hx:=hr x (by simp [Op.operands]);rw [hb] at hx;obtain ⟨w',aB,hp⟩:=JV aA h hob hx (hr y (by simp [Op.operands]));exact .inr (.inl ⟨ρ,w',by simp [execOp,aB],hp⟩)
  .simp only [Af,Aa] at h;obtain ⟨st1,h,rfl,rfl⟩:=h;obtain ⟨w',aB,hp,_,_⟩:=JO aA h (hr x (by simp [Op.operands])) (hr y (by simp [Op.operands]));exact .inr (.inl ⟨ρ,w',by simp [execOp,aB],hp⟩)
 .rename_i t l c;rcases Yd h with ⟨_,h⟩ | ⟨_,h⟩
  .rcases Yd h with ⟨_,h⟩ | ⟨_,h⟩
   .obtain ⟨ρ',u,w',aB,hp,_,_⟩:=Xe (st:=st.dropO) aA cx.floor h (hr l (by simp [Op.operands])) (hr c (by simp [Op.operands]));exact .inl ⟨ρ',u,w',by simp [execOp,aB],hp.val,hp.rel,hp.ev⟩
   .obtain ⟨ρ',u,w',aB,hp⟩:=Jn (st:=st.dropO) aA h hob (hr l (by simp [Op.operands])) (hr c (by simp [Op.operands]));exact .inl ⟨ρ',u,w',by simp [execOp,aB],hp.val,hp.rel,hp.ev⟩
  .obtain ⟨ρ',u,w',aB,hp,_,_⟩:=Xe aA cx.floor h (hr l (by simp [Op.operands])) (hr c (by simp [Op.operands]));exact .inl ⟨ρ',u,w',by simp [execOp,aB],hp⟩
 .rename_i args argTypes;have aE:Yh (Zp ρ) (args.toList.map st.eval) (args.map a.eval).toList :=by rw [AI];exact Yh.maps _ _ _ fun x hx=>hr x (by grind [Op.operands,Call.operands])
  unfold Wq at h;rcases Yd h with ⟨_,h⟩ | ⟨hty,h⟩
  .cases h
  rw [Bool.not_eq_false'] at hty;rcases Yd h with ⟨_,h⟩ | ⟨_,h⟩
  .obtain ⟨ρ',u,w',aB,hp⟩:=J2 (type:=type) aA h hob aE hty;exact .inl ⟨ρ',u,w',by simp_all [execOp,resolve,invoke,builtin],hp⟩
  split at h
  .rename_i hxs;obtain ⟨ρ',u,w',aB,hp,_⟩:=Ua (type:=type) aA h hob (hxs ▸ aE) (by rw [hxs] at hty;exact hty);exact .inl ⟨ρ',u,w',by simp_all [execOp,resolve,invoke,builtin],hp⟩
  .obtain ⟨ρ',u,w',aB,hp,_,_⟩:=Xi (type:=type) aA cx.floor h aE hty;exact .inl ⟨ρ',u,w',by simp_all [execOp,resolve,invoke,builtin],hp⟩
 .rename_i args argTypes;have aE:Yh (Zp ρ) (args.toList.map st.eval) (args.map a.eval).toList :=by rw [AI];exact Yh.maps _ _ _ fun x hx=>hr x (by grind [Op.operands,Call.operands])
  unfold Cw at h;split at h
  .rename_i b sz off len cap x xs hxs;obtain ⟨ρ',u,w',aB,hp⟩:=Ku (type:=type) (d:=.sla b sz off len cap) aA h hob (hxs ▸ aE) fun u hu=>by
    cases hu with
    | sla _ _ _ _ _ l c hρ _ aC=>grind
    | slan=>grind
   exact .inl ⟨ρ',u,w',by simp_all [execOp,resolve,invoke,builtin],hp⟩
  .rename_i b sz off len x xs hxs;obtain ⟨ρ',u,w',aB,hp⟩:=Ku (type:=type) (d:=.slv b sz off len) aA h hob (hxs ▸ aE) fun u hu=>by
    cases hu with
    | slv _ _ _ _ l c hρ aC=>grind
    | slve _ _ _ blk base c=>grind
    | slvn=>grind
   exact .inl ⟨ρ',u,w',by simp_all [execOp,resolve,invoke,builtin],hp⟩
  .obtain ⟨ρ',u,w',aB,hp,_,_⟩:=Ik (type:=type) aA cx.floor h aE;exact .inl ⟨ρ',u,w',by simp_all [execOp,resolve,invoke,builtin],hp⟩
 .rename_i args argTypes;have aE:Yh (Zp ρ) (args.toList.map st.eval) (args.map a.eval).toList :=by rw [AI];exact Yh.maps _ _ _ fun x hx=>hr x (by grind [Op.operands,Call.operands])
  obtain ⟨ρ',u,w',aB,hp,_,_⟩:=JI (type:=type) aA cx.floor h aE;exact .inl ⟨ρ',u,w',by simp_all [execOp,resolve,invoke,builtin],hp⟩
 .rename_i f args argTypes;split at h
  .rename_i g caps hg;have hf:=hr f (by simp [Op.operands,Call.operands]);rw [hg] at hf;generalize hw:a.eval f=u at hf;cases hf with
   | fn _ _ cvs hl hh=>
    have aE:Yh (Zp ρ) (args.toList.map st.eval++caps) (args.map a.eval++cvs).toList :=by rw [Array.toList_append,AI];exact Yh.append (Yh.maps _ _ _ fun x hx=>hr x (by grind [Op.operands,Call.operands])) (Yh.of (by grind) fun i h1 h2=>by grind)
    obtain ⟨⟨fn,hfn,hb⟩,hc⟩:=Hi hS hR hcx h hob aE aA;refine .inr (.inr ⟨g,args.map a.eval++cvs,?_,hc⟩);simp_all [Xo,execOp,resolve,Deferred.ofValue,invoke]
  .rename_i g first hg
   have hf:=hr f (by simp [Op.operands,Call.operands]);rw [hg] at hf;generalize hw:a.eval f=u at hf;cases hf with
   | fnb _ _ cvs hl hh=>
    have aE:Yh (Zp ρ) (first++args.toList.map st.eval) (cvs++args.map a.eval).toList :=by rw [Array.toList_append,AI];exact Yh.append (Yh.of (by grind) fun i h1 h2=>by grind) (Yh.maps _ _ _ fun x hx=>hr x (by grind [Op.operands,Call.operands]))
    obtain ⟨⟨fn,hfn,hb⟩,hc⟩:=Hi hS hR hcx h hob aE aA;refine .inr (.inr ⟨g,cvs++args.map a.eval,?_,hc⟩);simp_all [Xo,execOp,resolve,Deferred.ofValue,invoke]
  .cases h
 .cases h
end
section
variable {P:Program} {ρ:BB}
theorem Yv.congr {env env':T BA} {n:Nat} {tmps:Array Value} (h:Yv ρ env n tmps) (he: ∀t,T.get .undef env' t=T.get .undef env t):Yv ρ env' n tmps:=
 ⟨h.size,fun i=>by rw [he];exact h.get i,fun i hi=>by rw [he];exact h.out i hi⟩
theorem Yv.eval {st:St} {n:Nat} {a:Act} (h:Yv ρ st.env n a.tmps) (x:Operand):Zp ρ (st.eval x) (a.eval x):=by
 cases x with
 | tmp t=>exact h.get t
 | const v=>exact Gt v
 | global g=>exact .undef _
 | func f=>exact .fn f [] #[] rfl fun i h1 _=>by simp at h1
theorem Yv.put {env env':T BA} {n:Nat} {a:Act} (h:Yv ρ env n a.tmps) {dst:Option Tmp} {v:BA} {u:Value} (hv:Zp ρ v u)
  (hp:(dst=none/\env'=env)\/ ∃d,dst=some d/\d<n/\env'=T.set .undef env d v):Yv ρ env' n (a.put dst u).tmps :=by
 rcases hp with ⟨rfl,rfl⟩ | ⟨d,rfl,hd,rfl⟩
 .exact h
 .have hsz:=h.size;refine ⟨by simp [Act.put,hsz],fun i=> ?_,fun i hi=> ?_⟩
  .rw [T.get_set];by_cases hi:i=d
   .simp_all [Act.put]
   .rw [Aj hi];have:=h.get i
    simpa [Act.put,Array.getElem?_setIfInBounds_ne (Ne.symm hi)] using this
  .rw [T.get_set,Aj (Nat.ne_of_gt (Av hd hi))];exact h.out i hi
theorem Act.put_defers' (a:Act) (dst:Option Tmp) (v:Value):(a.put dst v).defers =a.defers:=by cases dst <;> rfl
theorem IY {ops:Array Oper} {o:Oper} {cx:BK} {st st':St} {e:Bool} (h:Jp ops o cx st=some (e,st')):st'.mem=st.mem/\st'.next=st.next/\(st'.ob=true->st.ob=true/\ ∀t,st'.tmp t=st.tmp t):=by
 unfold Jp at h;split at h
 .grind
 .split at h
  .cases h
  .rename_i d hd;split at h
   .rename_i b hb;split at h;rename_i e1 st1 ht;split at h
    .rename_i st2 hp;simp only [Ac,Aa] at h;obtain ⟨_,rfl⟩:=h;obtain ⟨t1,t2,t3,t4⟩:=Vd ht;obtain ⟨p1,p2,p3,p4⟩:=Yx hp;refine ⟨p1.trans t2,p2.trans t3,fun ho=> ?_⟩;rw [p3] at ho;obtain ⟨rfl,ho⟩:=t4 ho;refine ⟨ho,fun t=> ?_⟩;rcases p4 with ⟨e,_⟩ | ⟨d',e,_,he⟩
     .cases e
     .obtain rfl:=Ab e;show T.get .undef st2.env t=T.get .undef st.env t;rw [he,t1,T.get_set];split
      .rename_i h;subst h;exact hb.symm
      .rfl
    .cases h
   all_goals grind
def Yi (ops:Array Oper) (o:Oper):Option Tmp:=o.guard.bind fun g=>(ops[g.1]?).bind (·.dst)
theorem Io {ops:Array Oper} {o:Oper} {cx:BK} {st st':St} {e:Bool} (h:Jp ops o cx st=some (e,st')) (ho:st'.ob=true) {tmps:Array Value} (hsz:tmps.size=cx.n)
  (hr: ∀d,Yi ops o=some d->Zp ρ (st.tmp d) (tmps.getD d undef)):Region.wanted o (yielded ops tmps)=e:=by
 unfold Jp at h;unfold Region.wanted;split at h
 .grind
 .rename_i j want hg;rw [hg];simp only;split at h
  .cases h
  .rename_i d hd;have hrd:=hr d (by simp [Yi,hg,hd]);split at h
   .rename_i b hb;split at h;rename_i e1 st1 ht;split at h
    .rename_i st2 hp;simp only [Ac,Aa] at h;obtain ⟨rfl,rfl⟩:=h;obtain ⟨_,_,_,t4⟩:=Vd ht;obtain ⟨_,_,p3,p4⟩:=Yx hp;rw [p3] at ho;obtain ⟨rfl,_⟩:=t4 ho;rcases p4 with ⟨e,_⟩ | ⟨d',e,hlt,_⟩
     .cases e
     .obtain rfl:=Ab e;rw [hb] at hrd;have hlt':d<tmps.size:=(by grind);have aG:tmps.getD d undef=tmps[d]:=(by simp [hlt']);rw [aG] at hrd;have:yielded ops tmps j=some e1:=by unfold yielded;rw [hd];simp only [Option.bind_some,AY hlt'];generalize tmps[d]=u at hrd;cases hrd;rfl
      grind
    .cases h
   .rename_i hb;simp only [Ac,Aa] at h;obtain ⟨rfl,rfl⟩:=h;rw [hb] at hrd;have:yielded ops tmps j=none:=by
     unfold yielded;rw [hd];simp only [Option.bind_some];by_cases hlt:d<tmps.size
     .have aG:tmps.getD d undef=tmps[d]:=(by simp [hlt]);rw [aG] at hrd;rw [AY hlt];generalize tmps[d]=u at hrd;cases hrd;rfl
     grind
    grind
   .cases h
theorem IC {cx:BK} {t:Nat} {kd:IntKind} {n:Int} {st st':St} (ht:st.tmp t=.int kd n) (h:st.conc cx t kd n=some st'):st'.mem=st.mem/\st'.next=st.next/\(st'.ob=true->st.ob=true/\ ∀t,st'.tmp t=st.tmp t):=by
 obtain ⟨env,mem,next,orc,ob⟩:=st;cases orc with
 | nil=>
  obtain rfl:=Ab h
  grind
 | cons o r=>
  unfold St.conc at h;obtain ⟨_,h⟩:=Zu h;obtain rfl:=Ab h;refine ⟨rfl,rfl,fun ho=> ?_⟩;simp only [Ag,An] at ho;refine ⟨ho.2,fun k=> ?_⟩;show T.get .undef (T.set .undef env t _) k=T.get .undef env k;rw [T.get_set];split
  .rename_i e;subst e;rw [<-ho.1];exact ht.symm
  .rfl
theorem IT {o:Oper} {cx:BK} {st st':St} (h:Fi o cx st=some st'):st'.mem=st.mem/\st'.next=st.next/\(st'.ob=true->st.ob=true/\ ∀t,st'.tmp t=st.tmp t):=by
 grind [Fi,IC]
theorem Xp {ops:Array Oper} {o:Oper} {cx:BK} {st st':St} {e:Bool} (h:Wy ops o cx st=some (e,st')): ∃st1,Jp ops o cx st=some (e,st1)/\st'.mem=st1.mem/\st'.next=st1.next/\(st'.ob=true->st1.ob=true/\ ∀t,st'.tmp t=st1.tmp t)/\(Ze o.op=.alloc \/e=false->st'=st1):=by
 unfold Wy at h;split at h
 .rename_i st1 h1;split at h
  .rename_i st2 h2;simp only [Ac,Aa] at h;obtain ⟨rfl,rfl⟩:=h;obtain ⟨c1,c2,c3⟩:=IT h2;refine ⟨st1,h1,c1,c2,c3,fun hk=> ?_⟩;rcases hk with hk | hk
   .unfold Fi at h2;split at h2
    .rename_i ho;rw [ho] at hk;cases hk
    .rename_i ho;rw [ho] at hk;cases hk
    grind
   .cases hk
  .cases h
 grind
theorem Yz {ops:Array Oper} {o:Oper} {cx:BK} {st st':St} {e:Bool} (h:Wy ops o cx st=some (e,st')):st'.mem=st.mem/\st'.next=st.next/\(st'.ob=true->st.ob=true/\ ∀t,st'.tmp t=st.tmp t):=by
 grind [Xp,IY]
theorem Ye {ops:Array Oper} {o:Oper} {cx:BK} {st st':St} {e:Bool} (h:Wy ops o cx st=some (e,st')) (ho:st'.ob=true) {tmps:Array Value} (hsz:tmps.size=cx.n)
  (hg: ∀d,Yi ops o=some d->Zp ρ (st.tmp d) (tmps.getD d undef)):Region.wanted o (yielded ops tmps)=e:=by
 obtain ⟨st1,h1,_,_,c3,_⟩:=Xp h;exact Io h1 (c3 ho).1 hsz hg
structure J8 (P:Program) (cx:BK) (o:Oper) (st st':St) (v:BA):Prop where
 ob:st.ob=true
 does: ∀(ρ:BB) (a:Act) (w:World) (ev:Operand->BA),(∀x,x∈o.op.operands->ev x=st.eval x)->Xk ρ ev a.eval o.op->BC ρ st.mem st.next w->C8 P o a w (BU ρ cx.floor st st' v w)
 calm:(Ze o.op=.pure \/Ze o.op=.read)-> ∀(ρ:BB) (a:Act) (w:World) (ev:Operand->BA) (mem:BI) (next:Nat),(∀x,x∈o.op.operands->ev x=st.eval x)->Xk ρ ev a.eval o.op->BC ρ mem next w->
  (∀t y b ab,o.op=.load t y->B5 o.op ev=some b->Zb st.mem b=some ab->Zb mem b=some ab)-> ∃u,(execOp a.eval o).run P w=.ok (.value u) w/\Zp ρ v u
theorem IJ {op:Op} {ev:Operand->BA} {x:BA×Bool} (h:Xg P op ev=some x):Ze op=.pure :=by
 cases op with
 | call c=>
  obtain ⟨callee,args,argTypes⟩:=c;cases callee with
  | builtin b=>cases b <;> first | rfl | (simp [Xg,Ko] at h)
  | value f=>simp [Xg] at h
  | invoke r m=>rfl
 | _=>first | rfl | (simp [Xg] at h;done)
theorem Iv {S:BD} {R:BF} (hN:Va P) (hS:Ys P S) (hRI:Bb R) (hR:Bp P R) {lift:Bool} {o:Oper} {cx:BK} {st st':St} (hcx:cx.floor<=st.next) (h:Qw P S R lift o cx st=some st'):
  ∃v stm,stm.put cx o.dst v=some st'/\stm.env=st.env/\Zf cx.floor st stm/\((Ze o.op=.pure \/Ze o.op=.read)->stm.mem=st.mem/\stm.next=st.next)/\
   (lift=true->Ze o.op=.call -> ∀b,b<st.next->B6 S o.op st.eval≠some b->Zb stm.mem b=Zb st.mem b)/\
   (Ze o.op=.chain -> ∀b,b<st.next->BZ o.op st.eval≠some b->Zb stm.mem b=Zb st.mem b)/\
   (Ze o.op=.alloc ->v=.ptr st.next 0/\ ∃t z,o.op=.alloc t/\Xf P t=some z/\stm=Um st z t)/\
   (st'.ob=true->J8 P cx o st stm v):=by
 unfold Qw at h;split at h
 .rename_i v b hp;have hk:=IJ hp;split at h
  .rename_i st1 h1;obtain ⟨e1,e2,e3,e4⟩:=Zs h1;refine ⟨v,st1,h,e1,Zf.same e2 e3 fun x=>(e4 x).2,fun _=>⟨e2,e3⟩,(fun _ hc=>by grind),(fun hc=>by grind),(fun hc=>by grind),fun ho=> ?_⟩;obtain ⟨_,_,p3,_⟩:=Yx h;rw [p3] at ho;obtain ⟨rfl,ho1⟩:=e4 ho;refine ⟨ho1,fun ρ a w ev hev hr aA=> ?_,fun _ ρ a w ev mem next hev hr aA hag=> ?_⟩
   .have hr':Xk ρ st.eval a.eval o.op:=fun x hx=>by rw [<-hev x hx];exact hr x hx
    obtain ⟨u,hu,aB⟩:=Hm hp rfl hr';exact .inl ⟨ρ,u,w,aB w,hu,by grind,by rw [e2,e3];exact Ev.refl _ _ _ _ _ aA.dom⟩
   .have hr':Xk ρ st.eval a.eval o.op:=fun x hx=>by rw [<-hev x hx];exact hr x hx
    grind [Hm]
  .cases h
 .split at h
  .rename_i v stm he;obtain ⟨bN,aD⟩:=Hj hRI he;refine ⟨v,stm,h,aD,bN,fun hk=> ?_,fun hl hk b hb hw=> ?_,fun hk b hb hn=>JJ hk hb hn he,fun hk=> ?_,fun ho=> ?_⟩
   .obtain ⟨dst,op,type,pos,after,guard⟩:=o;simp only at hk he;cases op with
    | load t x=>
     simp only [Yu] at he;split at he
     .rename_i hl;obtain ⟨l1,l2,l3,l4⟩:=Vm hl;simp only [Af,Aa] at he
      grind [Zs]
     .cases he
    | call c=>
     obtain ⟨callee,args,argTypes⟩:=c;cases callee with
     | builtin b=>cases b <;> first | (simp [Yu] at he;done) | (simp [Ze] at hk;done)
     | value f=>simp [Ze] at hk
     | invoke r m=>simp [Yu] at he
    | _=>first | (simp [Yu] at he;done) | (simp [Ze] at hk;done)
   .obtain ⟨dst,op,type,pos,after,guard⟩:=o;simp only at hk he;cases op with
    | call c=>
     obtain ⟨callee,args,argTypes⟩:=c;cases callee with
     | builtin b=>cases b <;> first | (simp [Yu] at he;done) | (simp [Ze] at hk;done)
     | value f=>
      grind [Yu,HL,B6]
     | invoke r m=>simp [Yu] at he
    | _=>first | (simp [Yu] at he;done) | (simp [Ze] at hk;done)
   .obtain ⟨dst,op,type,pos,after,guard⟩:=o;simp only at hk he;cases op with
    | alloc t=>
     simp only [Yu,Af,Aa] at he
     grind
    | call c=>
     obtain ⟨callee,args,argTypes⟩:=c;cases callee with
     | builtin b=>cases b <;> first | (simp [Yu] at he;done) | (simp [Ze] at hk;done)
     | value f=>simp [Ze] at hk
     | invoke r m=>simp [Yu] at he
    | _=>first | (simp [Yu] at he;done) | (simp [Ze] at hk;done)
   .obtain ⟨_,_,p3,_⟩:=Yx h;rw [p3] at ho;refine ⟨bN.ob ho,fun ρ a w ev hev hr aA=>JT hN hS hR hcx he ho hev hr aA,fun hk ρ a w ev mem next hev hr aA hag=> ?_⟩;obtain ⟨dst,op,type,pos,after,guard⟩:=o;simp only at hk he hev hr hag;cases op with
    | load t x=>
     simp only [Yu] at he;split at he
     .rename_i v' bb st0 hv;obtain ⟨l1,l2,l3,l4⟩:=Vm hv;simp only [Af,Aa] at he;obtain ⟨st1,h1,rfl,rfl⟩:=he;obtain ⟨_,_,_,e4⟩:=Zs h1;obtain ⟨rfl,hob0⟩:=e4 ho;have hv:=(l4 hob0).1;have hx:x∈(Op.load t x).operands :=(by simp [Op.operands]);have hl:C6 P mem t (ev x)=some (v',true):=by
       rw [hev x hx];have hag': ∀b ab,B5 (.load t x) st.eval=some b->Zb st.mem b=some ab->Zb mem b=some ab:=fun b ab q1 q2=>hag t x b ab rfl (by grind [B5]) q2;unfold C6 at hv ⊢;split at hv
       .grind [B5]
       .rename_i y hy;unfold CT at hv ⊢
        grind [B5]
      obtain ⟨z,hz,aB⟩:=Kv aA hl (hr x hx);simp_all [execOp]
     .cases he
    | call c=>
     obtain ⟨callee,args,argTypes⟩:=c;cases callee with
     | builtin b=>cases b <;> first | (simp [Yu] at he;done) | (simp [Ze] at hk;done)
     | value f=>simp [Ze] at hk
     | invoke r m=>simp [Yu] at he
    | _=>first | (simp [Yu] at he;done) | (simp [Ze] at hk;done)
  .cases h
theorem Qy {S:BD} {R:BF} {ops:Array Oper} {cx:BK} {x:Bool×Oper} {l:List (Bool×Oper)} {st:St}:F6 P S R ops cx (x::l) st=(Bv P S R ops cx x st).bind (F6 P S R ops cx l):=by
 grind [F6,Bv]
theorem C8.wp2 {o:Oper} {a:Act} {w:World} {K:BB->Value->World->Prop} {next:Act->World->Prop} {Q:Exit->Act->World->Prop} (h:C8 P o a w K)
  (hk: ∀ρ' u w',K ρ' u w'->((execOp a.eval o).run P w=.ok (.value u) w'\/ ∀u w',(execOp a.eval o).run P w≠ .ok (.value u) w')->next (a.put o.dst u) w'):o.wp P a w next Q:=by
 unfold Oper.wp;rcases h with ⟨ρ',u,w',e,k⟩ | ⟨ρ',w',e,k⟩ | ⟨f,args,e,hc⟩
 .have:=hk _ _ _ k (.inl e);rw [e];exact this
 .have:=hk _ _ _ k (.inr fun u w' e2=>by grind);rw [e];exact this
 .rw [e];exact hc.mono fun e' w' ⟨ρ',u,he,k⟩=>by
   grind
theorem I9 (m:BI) (sz:Nat) (zero:List BA) (ut:TypeDesc) (b o n:Nat) (c:Bj):Fe m sz zero ut (.sl b o n c)=none:=by cases ut <;> rfl
theorem Gn {cx:BK} {st:St} {ts:List TypeId} {s:BA} {b o n:Nat} {c:Bj} {r:List BA}:Xn P cx st ts (s::.sl b o n c::r)=none:=by
 unfold Xn
 grind [I9,unN]
theorem I2 {S:BD} {R:BF} {lift:Bool} {o:Oper} {cx:BK} {st st':St} (h:Qw P S R lift o cx st=some st') (hob:st'.ob=true) {b:Nat} (hk:B4 o.op st.eval st.mem=some b) {a:Act} {w:World} (hr:Xk ρ st.eval a.eval o.op) (aA:BC ρ st.mem st.next w):
  ∃u w',(execOp a.eval o).run P w=.ok (.value u) w'/\ ∀ab l,Zb st.mem b=some ab->ρ b=some l->Ya ρ w' ab l:=by
 obtain ⟨dst,op,type,pos,after,guard⟩:=o;simp only at hk hr;unfold B4 at hk;split at hk
 .rename_i args argTypes;have aE:Yh (Zp ρ) (args.toList.map st.eval) (args.map a.eval).toList :=by rw [AI];exact Yh.maps _ _ _ fun x hx=>hr x (by grind [Op.operands,Call.operands])
  have h:(match Wq P cx st argTypes.toList (args.toList.map st.eval) with
   | some (v,st2)=>st2.put cx dst v
   | none=>none)=some st':=h
  split at h
  .rename_i v st2 h2;have ho2:st2.ob=true:=by
    obtain ⟨_,_,p3,_⟩:=Yx h
    grind
   unfold Wq at h2;rcases Yd h2 with ⟨_,h2⟩ | ⟨hty,h2⟩
   .cases h2
   rw [Bool.not_eq_false'] at hty;split at hk
   .rename_i b' sz off len z b2 o2 n2 c2 r he;obtain rfl:=Ab hk;rw [he] at h2 aE;rcases Yd h2 with ⟨_,h2⟩ | ⟨_,h2⟩
    .rw [Gn] at h2;cases h2
    .obtain ⟨ρ',u,w',aB,_,hq⟩:=Ua (type:=type) aA h2 ho2 aE (by rw [he] at hty;exact hty);exact ⟨u,w',by simp_all [execOp,resolve,invoke,builtin],fun ab l k1 k2=>hq _ _ _ _ _ _ _ _ rfl k1 k2⟩
   .rename_i b' off len z b2 o2 n2 c2 r he;split at hk
    .rename_i blk hm;obtain ⟨hc,hk⟩:=Zu hk;obtain rfl:=Ab hk;simp only [Ag] at hc;rw [he] at h2 aE;rcases Yd h2 with ⟨_,h2⟩ | ⟨_,h2⟩
     .rw [Gn] at h2;cases h2
     .obtain ⟨ρ',u,w',aB,_,_,hq⟩:=Xi (type:=type) aA cx.floor h2 aE (by rw [he] at hty;exact hty);refine ⟨u,w',by simp_all [execOp,resolve,invoke,builtin],fun ab l k1 k2=> ?_⟩;rw [hm] at k1;obtain rfl:=Ab k1;exact hq.1 _ _ _ _ _ _ _ _ _ _ _ rfl (Ad hc.2) hm (Ae hc.1) k2
    .cases hk
   .cases hk
  .cases h
 .cases hk
structure GM (S:BD) (P:Program) (ops:Array Oper) (cx:BK) (x:Bool×Oper) (st st':St):Prop where
 inv:Zf cx.floor st st'
 stay:(Ze x.2.op=.pure \/Ze x.2.op=.read)->st'.mem=st.mem/\st'.next=st.next
 lift:st'.ob=true->x.1=true->Ze x.2.op=.call -> ∀b,b<st.next->B6 S x.2.op st.eval≠some b->Zb st'.mem b=Zb st.mem b
 foot:st'.ob=true->Ze x.2.op=.chain -> ∀b,b<st.next->BZ x.2.op st.eval≠some b->Zb st'.mem b=Zb st.mem b
 alloc:Ze x.2.op=.alloc ->x.2.guard=none-> ∃t z,x.2.op=.alloc t/\Xf P t=some z/\st'.mem=(Um st z t).mem /\st'.next=(Um st z t).next /\ ∀d,x.2.dst=some d->st'.tmp d=.ptr st.next 0
 slot: ∀d,x.2.dst=some d->d<cx.n
 other:st'.ob=true-> ∀t,x.2.dst≠some t->st'.tmp t=st.tmp t
 does:st'.ob=true-> ∀(ρ:BB) (a:Act) (w:World) (ev:Operand->BA),a.tmps.size=cx.n->(∀y,y∈x.2.op.operands->ev y=st.eval y)->(∀d,Yi ops x.2=some d->Zp ρ (st.tmp d) (a.tmps.getD d undef))->Xk ρ ev a.eval x.2.op->BC ρ st.mem st.next w->
  ∀(K:Act->World->Prop) (Q:Exit->Act->World->Prop),(∀ρ' u w',(∀d,x.2.dst=some d->Zp ρ' (st'.tmp d) u)->BC ρ' st'.mem st'.next w'->Ev ρ ρ' cx.floor st.mem st.next st'.mem st'.next w w'->(∀b ab l,B4 x.2.op st.eval st.mem=some b->Zb st.mem b=some ab->ρ b=some l->Ya ρ w' ab l)->K (a.put x.2.dst u) w')->
   if Region.wanted x.2 (yielded ops a.tmps) then x.2.wp P a w K Q else K (a.put x.2.dst undef) w
 calm:st'.ob=true->(Ze x.2.op=.pure \/Ze x.2.op=.read)-> ∀(ρ:BB) (a:Act) (w:World) (ev:Operand->BA) (mem:BI) (next:Nat),a.tmps.size=cx.n->(∀y,y∈x.2.op.operands->ev y=st.eval y)->(∀d,Yi ops x.2=some d->Zp ρ (st.tmp d) (a.tmps.getD d undef))->Xk ρ ev a.eval x.2.op->BC ρ mem next w->
  (∀t y b ab,x.2.op=.load t y->B5 x.2.op ev=some b->Zb st.mem b=some ab->Zb mem b=some ab)-> ∀(K:Act->World->Prop) (Q:Exit->Act->World->Prop),(∀u,(∀d,x.2.dst=some d->Zp ρ (st'.tmp d) u)->K (a.put x.2.dst u) w)->
   if Region.wanted x.2 (yielded ops a.tmps) then x.2.wp P a w K Q else K (a.put x.2.dst undef) w
theorem Hd {S:BD} {R:BF} (hN:Va P) (hS:Ys P S) (hRI:Bb R) (hR:Bp P R) {ops:Array Oper} {x:Bool×Oper} {cx:BK} {st st':St} (hcx:cx.floor<=st.next) (h:Bv P S R ops cx x st=some st'):
  GM S P ops cx x st st':=by
 unfold Bv at h;split at h
 .cases h
 .rename_i st1 hw;obtain ⟨w1,w2,w3⟩:=Yz hw;obtain ⟨v,stm,hp,aD,bN,hstay,hlift,hfoot,halloc,hdo⟩:=Iv hN hS hRI hR (by grind) h;obtain ⟨p1,p2,p3,p4⟩:=Yx hp;have bH: ∀d,x.2.dst=some d->st'.tmp d=v:=fun d hd=>by
   rcases p4 with ⟨e,_⟩ | ⟨d',e,_,he⟩
   .grind
   .rw [hd] at e;obtain rfl:=Ab e;show T.get .undef st'.env d=v;rw [he,T.get_set,Ap rfl]
  have hi1:Zf cx.floor st st1:=Zf.same w1 w2 fun ho=>(w3 ho).1;have hi2:Zf cx.floor stm st':=Zf.same p1 p2 fun ho=>by grind
  refine ⟨(hi1.trans bN).trans hi2,fun hk=> ?_,fun ho hl hk b hb hn=> ?_,fun ho hk b hb hn=> ?_,fun hk hg=> ?_,fun d hd=> ?_,fun ho t ht=> ?_,fun ho ρ a w ev hsz hev hgr hr aA K Q hK=> ?_,fun ho hk ρ a w ev mem next hsz hev hgr hr aA hag K Q hK=> ?_⟩
  .grind
  .have ho1:st1.ob=true:=bN.ob (by grind);have aS:st1.eval=st.eval:=by
    funext y
    cases y with
    | tmp t=>exact (w3 ho1).2 t
    | _=>rfl
   grind
  .have ho1:st1.ob=true:=bN.ob (by grind);have aS:st1.eval=st.eval:=by
    funext y
    cases y with
    | tmp t=>exact (w3 ho1).2 t
    | _=>rfl
   grind
  .grind [Xp,Jp]
  .grind
  .have ho1:st1.ob=true:=bN.ob (by grind);rw [<-(w3 ho1).2 t];show T.get .undef st'.env t=T.get .undef st1.env t
   grind [T.get_set]
  .have ho1:st1.ob=true:=bN.ob (by grind);have aS:=(w3 ho1).2;have bK: ∀y,st1.eval y=st.eval y:=fun y=>by cases y <;> first | rfl | exact aS _
   rw [Ye hw ho1 hsz hgr,Ap rfl];refine ((hdo ho).does ρ a w ev (fun y hy=>by grind) hr (by grind)).wp2 fun ρ' u w' bB aB=> ?_;have he:=bB.ev;rw [w1,w2] at he;refine hK ρ' u w' (fun d hd=>by rw [bH d hd];exact bB.val) (by rw [p1,p2];exact bB.rel) (by grind) fun b ab l k1 k2 k3=> ?_;have hr':Xk ρ st1.eval a.eval x.2.op:=fun y hy=>by rw [bK y,<-hev y hy];exact hr y hy
   have e1:st1.eval=st.eval:=funext bK
   grind [I2]
  .have ho1:st1.ob=true:=bN.ob (by grind);have aS:=(w3 ho1).2;have bK: ∀y,st1.eval y=st.eval y:=fun y=>by cases y <;> first | rfl | exact aS _
   rw [Ye hw ho1 hsz hgr,Ap rfl];obtain ⟨u,aB,hu⟩:=(hdo ho).calm hk ρ a w ev mem next (fun y hy=>by grind) hr aA (fun t y b ab q1 q2 q3=>hag t y b ab q1 q2 (by grind))
   unfold Oper.wp;rw [aB];exact hK u fun d hd=>by grind
 .rename_i st1 hw;obtain ⟨w1,w2,w3⟩:=Yz hw;obtain ⟨p1,p2,p3,p4⟩:=Yx h;have bH: ∀d,x.2.dst=some d->st'.tmp d=.tup []:=fun d hd=>by
   rcases p4 with ⟨e,_⟩ | ⟨d',e,_,he⟩
   .grind
   .rw [hd] at e;obtain rfl:=Ab e;show T.get .undef st'.env d=.tup [];rw [he,T.get_set,Ap rfl]
  refine ⟨Zf.same (p1.trans w1) (p2.trans w2) fun ho=>(w3 (by grind)).1,fun _=>⟨p1.trans w1,p2.trans w2⟩,fun _ _ _ b _ _=>by rw [p1,w1],fun _ _ b _ _=>by rw [p1,w1],fun hk hg=> ?_,fun d hd=> ?_,fun ho t ht=> ?_,fun ho ρ a w ev hsz hev hgr hr aA K Q hK=> ?_,fun ho hk ρ a w ev mem next hsz hev hgr hr aA hag K Q hK=> ?_⟩
  .grind [Xp,Jp]
  .grind
  .rw [<-(w3 (by grind)).2 t];show T.get .undef st'.env t=T.get .undef st1.env t
   grind [T.get_set]
  .have ho1:st1.ob=true:=by grind
   rw [Ye hw ho1 hsz hgr,Aj (by simp)];refine hK ρ undef w (fun d hd=>by rw [bH d hd];exact .tup [] #[] rfl fun i h1 _=>by simp at h1) ?_ ?_ fun b ab l _ k2 k3=>aA.blk b l ab k3 k2
   .grind
   .rw [p1,p2,w1,w2];exact Ev.refl _ _ _ _ _ aA.dom
  .have ho1:st1.ob=true:=by grind
   rw [Ye hw ho1 hsz hgr,Aj (by simp)];exact hK undef fun d hd=>by rw [bH d hd];exact .tup [] #[] rfl fun i h1 _=>by simp at h1
def CE (D:List Deferred) (ρ:BB) (cx:BK) (st st':St) (w:World):Exit->Act->World->Prop:=fun e a' w'=>
 e=.normal /\a'.defers=D/\ ∃ρ',Yv ρ' st'.env cx.n a'.tmps/\BC ρ' st'.mem st'.next w'/\Ev ρ ρ' cx.floor st.mem st.next st'.mem st'.next w w'
def F3 (ρ:BB) (k:Nat) (o:Obj):BB:=⟨ρ.f,fun j=>if j=k then some o else ρ.fz j,ρ.lp⟩
theorem GH {k:Nat} {o:Obj} (h:ρ.fz k=none):ρ.le (F3 ρ k o):=
 ⟨fun _ _ e=>e,fun j o' e=>by
  show (if j=k then some o else ρ.fz j)=some o'
  grind,fun _ _ e=>e⟩
theorem BC.froze {mem:BI} {next:Nat} {w:World} (h:BC ρ mem next w) (vs:Array Value) (el:TypeId):
  BC (F3 ρ w.heap.size (.cells vs el)) mem next {w with heap:=w.heap.push (.cells vs el)}:=by
 have hle:=GH (o:=.cells vs el) (h.hold w.heap.size (Ah _));have push: ∀k,k<w.heap.size->(w.heap.push (.cells vs el))[k]? =w.heap[k]? :=fun k hk=>by
  grind
 refine ⟨h.dom,h.inj,fun b l ab e hm=> ?_,fun k o e=> ?_,fun b l e hs=> ?_,fun b l e=> ?_,h.bd,h.ldom.1,h.ldom.2.mono hle.2.1⟩
 .exact (h.blk b l ab e hm).world hle (push _ (h.real b l e))
 .have e:(if k=w.heap.size then some (.cells vs el) else ρ.fz k)=some o:=e;show (w.heap.push (.cells vs el))[k]? =some o;by_cases hk:k=w.heap.size
  .grind
  .rw [Aj hk] at e;have:=h.old k o e
   grind
 .have:=h.real b l e;show (if l.blk=w.heap.size then _ else ρ.fz l.blk)=none;rw [Aj (by omega)];exact h.sep b l e hs
 .have:=h.real b l e
  grind
theorem Ev.froze {mem:BI} {next:Nat} {w:World} (h:BC ρ mem next w) (floor:Nat) (m:BI) (vs:Array Value) (el:TypeId):
  Ev ρ (F3 ρ w.heap.size (.cells vs el)) floor m next m next w {w with heap:=w.heap.push (.cells vs el)}:=by
 have hle:=GH (o:=.cells vs el) (h.hold w.heap.size (Ah _));refine ⟨hle,fun _ _=>rfl,Ah _,fun _ _ _ _ _ q=>q,fun k o q _=> ?_,fun b l hb hl=> ?_,?_,rfl,rfl,rfl,fun k hk=> ?_⟩
 .grind
 .have:=h.dom b l hl;omega
 .grind
 .show (if k=w.heap.size then _ else ρ.fz k)=ρ.fz k
  grind
theorem Il {w:World} {t:TypeId} {len:Nat} {ps:List (Nat×BA)} {qs:List (Nat×Value)} {v:BA} (hb:GP P t len ps=some v) (hp:Wp ρ ps qs) (hf:ρ.fz w.heap.size=none):
  ∃u vs el,(Instr.buildSlice t len qs.toArray).run P w=.ok u {w with heap:=w.heap.push (.cells vs el)}/\Zp (F3 ρ w.heap.size (.cells vs el)) v u:=by
 unfold GP at hb;split at hb
 .rename_i e hu;split at hb
  .rename_i i zero hi hz;obtain ⟨hc,hb⟩:=Zu hb;simp only [Ag] at hc;obtain ⟨⟨hl1,hs1⟩,hle,hzl⟩:=hc;have hl1:=Ad hl1;have hs1:=Ad hs1;have hle:=Ad hle;have hzl:=Ae hzl;split at hb
   .rename_i cells aK;obtain ⟨hc,hb⟩:=Zu hb;simp only [Ag] at hc;obtain ⟨hn,hpf⟩:=hc;have hn:=Ae hn;obtain rfl:=Ab hb;obtain ⟨_,z,_,_,hzr,hzv⟩:=Yy (ρ:=ρ) hz;have bG:=Jc hzr len (len*i.size) (by rw [hzl]);obtain ⟨arr,h1,h2⟩:=Xa aK bG hp;have hsz:arr.size=len*i.size:=(by rw [<-h2.1,hn]);have hgt': ¬2 ^ 24<len*i.size:=(by omega);have hpos:0<len*i.size:=Nat.mul_pos (by omega) (by omega);have h0: ¬len*i.size=0:=(by omega);refine ⟨.slice (some ⟨w.heap.size,0,none⟩) len len,arr,e,?_,?_⟩
    .have hsz0: ¬i.size=0:=(by omega);simp [Instr.buildSlice,run_underlying hu,Zj hi,h0,hsz0,hzv,h1,newRow,hgt']
    .have hin: ∀a b,a<len->b<i.size->a*i.size+b<cells.length:=fun a b ha hb=>by
      have:(a+1)*i.size<=len*i.size:=Ak _ ha
      grind
     have aG: ∀a,a<len->((cells.drop (a*i.size)).take i.size).length =i.size:=fun a ha=>by
      have:(a+1)*i.size<=len*i.size:=Ak _ ha
      grind
     refine .dat len _ w.heap.size 0 i.size len (fun a b=>arr.getD (a*i.size+b) undef) (Ah _) (fun a ha=>aG a ha) (fun a b ha hb=> ?_) (fun a b ha hb=> ?_)
     .have hb':b<i.size:=(by grind);have h3:=hin a b ha hb';have e1:((cells.drop (a*i.size)).take i.size)[b]=cells[a*i.size+b]:=by
       grind
      rw [e1];have h4:a*i.size+b<arr.size:=(by grind);have e2:arr.getD (a*i.size+b) undef=arr[a*i.size+b]:=(by simp [h4]);rw [e2];have h5:=Xq 6 _ _ (Ao.1 hpf _ (Az h3)) (h2.2 _ h3 h4);exact h5.mono (GH (o:=.cells arr e) hf).bare
     .have h3:=hin a b ha hb;have h4:a*i.size+b<arr.size:=(by grind);refine ⟨arr,e,(0,0),?_,?_⟩
      .show (if w.heap.size=w.heap.size then some (Obj.cells arr e) else _)=_
       grind
      .simp [h4]
   .cases hb
  .cases hb
 .cases hb
structure Fh (S:BD) (z:Nat) (P:Program) (ops:Array Oper) (cx:BK) (x:Bool×Oper) (st st':St):Prop where
 inv:Zf cx.floor st st'
 stay:(Zh z x.2.op=.pure \/Zh z x.2.op=.read \/Zh z x.2.op=.lit)->st'.mem=st.mem/\st'.next=st.next
 lift:st'.ob=true->x.1=true->Zh z x.2.op=.call -> ∀b,b<st.next->B6 S x.2.op st.eval≠some b->Zb st'.mem b=Zb st.mem b
 foot:st'.ob=true->Zh z x.2.op=.chain -> ∀b,b<st.next->BZ x.2.op st.eval≠some b->Zb st'.mem b=Zb st.mem b
 fresh:st'.ob=true->(Zh z x.2.op=.alloc \/Zh z x.2.op=.birth)->x.2.guard=none-> ∃cells ty,st'.mem=Zt st.mem st.next (some ⟨cells,ty,none⟩)/\st'.next=st.next+1/\
  ∀(ρ:BB) (a:Act) (w:World) (ev:Operand->BA),(∀y,y∈x.2.op.operands->ev y=st.eval y)->Xk ρ ev a.eval x.2.op->
   ∃u vs el,el=ty/\Yg ρ cells vs/\(execOp a.eval x.2).run P w=.ok (.value u) {w with heap:=w.heap.push (.cells vs el)}/\ ∀ρ':BB,ρ' st.next=some ⟨w.heap.size,0,cells.length,vs.size⟩-> ∀d,x.2.dst=some d->Zp ρ' (st'.tmp d) u
 slot: ∀d,x.2.dst=some d->d<cx.n
 other:st'.ob=true-> ∀t,x.2.dst≠some t->st'.tmp t=st.tmp t
 does:st'.ob=true->(Zh z x.2.op=.chain \/Zh z x.2.op=.call)-> ∀(ρ:BB) (a:Act) (w:World) (ev:Operand->BA),a.tmps.size=cx.n->(∀y,y∈x.2.op.operands->ev y=st.eval y)->(∀d,Yi ops x.2=some d->Zp ρ (st.tmp d) (a.tmps.getD d undef))->Xk ρ ev a.eval x.2.op->BC ρ st.mem st.next w->
  ∀(K:Act->World->Prop) (Q:Exit->Act->World->Prop),(∀ρ' u w',(∀d,x.2.dst=some d->Zp ρ' (st'.tmp d) u)->BC ρ' st'.mem st'.next w'->Ev ρ ρ' cx.floor st.mem st.next st'.mem st'.next w w'->(∀b ab l,B4 x.2.op st.eval st.mem=some b->Zb st.mem b=some ab->ρ b=some l->Ya ρ w' ab l)->K (a.put x.2.dst u) w')->
   if Region.wanted x.2 (yielded ops a.tmps) then x.2.wp P a w K Q else K (a.put x.2.dst undef) w
 calm:st'.ob=true->(Zh z x.2.op=.pure \/Zh z x.2.op=.read)-> ∀(ρ:BB) (a:Act) (w:World) (ev:Operand->BA) (mem:BI) (next:Nat),a.tmps.size=cx.n->(∀y,y∈x.2.op.operands->ev y=st.eval y)->(∀d,Yi ops x.2=some d->Zp ρ (st.tmp d) (a.tmps.getD d undef))->Xk ρ ev a.eval x.2.op->BC ρ mem next w->
  (∀t y b ab,x.2.op=.load t y->B5 x.2.op ev=some b->Zb st.mem b=some ab->Zb mem b=some ab)-> ∀(K:Act->World->Prop) (Q:Exit->Act->World->Prop),(∀u,(∀d,x.2.dst=some d->Zp ρ (st'.tmp d) u)->K (a.put x.2.dst u) w)->
   if Region.wanted x.2 (yielded ops a.tmps) then x.2.wp P a w K Q else K (a.put x.2.dst undef) w
 lit:st'.ob=true->Zh z x.2.op=.lit -> ∀(ρ:BB) (a:Act) (w:World) (ev:Operand->BA) (mem:BI) (next:Nat),a.tmps.size=cx.n->(∀y,y∈x.2.op.operands->ev y=st.eval y)->(∀d,Yi ops x.2=some d->Zp ρ (st.tmp d) (a.tmps.getD d undef))->Xk ρ ev a.eval x.2.op->BC ρ mem next w->
  ∀(K:Act->World->Prop) (Q:Exit->Act->World->Prop),(∀ρ' u w',(∀d,x.2.dst=some d->Zp ρ' (st'.tmp d) u)->BC ρ' mem next w'->(∀b,ρ' b=ρ b)->(∀floor m,Ev ρ ρ' floor m next m next w w')->K (a.put x.2.dst u) w')->
   if Region.wanted x.2 (yielded ops a.tmps) then x.2.wp P a w K Q else K (a.put x.2.dst undef) w
theorem II {z:Nat} {op:Op} (h:CW z op=false) (h2:isBirth z op=false):Zh z op=Ze op:=by unfold Zh;grind
theorem IA {o:Oper} {t:TypeId} {z:List BA} (ho:o.op=.alloc t) (hz:Xf P t=some z) (a:Act) (w:World):
  ∃vs:Array Value,Yg ρ z vs/\(execOp a.eval o).run P w=.ok (.value (.pointer (some ⟨w.heap.size,0,none⟩))) {w with heap:=w.heap.push (.cells vs t)}:=by
 obtain ⟨dst,op,type,pos,after,guard⟩:=o;simp only at ho;subst ho;obtain ⟨_,zv,_,_,hzr,hzv⟩:=Yy (ρ:=ρ) hz;exact ⟨zv.cells,hzr,by simp_all [execOp,Instr.alloc,newVar,newRow]⟩
theorem JS {w:World} {t:TypeId} {len:Nat} {ps:List (Nat×BA)} {qs:List (Nat×Value)} {cells:List BA} {e:TypeId} {sz:Nat} (hb:Fw P t len ps=some (cells,e,sz)) (hp:Wp ρ ps qs):
  ∃vs el,el=e/\Yg ρ cells vs/\(Instr.buildSlice t len qs.toArray).run P w=.ok (.slice (some ⟨w.heap.size,0,none⟩) len len) {w with heap:=w.heap.push (.cells vs el)}/\cells.length=len*sz/\vs.size=len*sz:=by
 unfold Fw at hb;split at hb
 .rename_i e hu;split at hb
  .rename_i i zero hi hz;obtain ⟨hc,hb⟩:=Zu hb;simp only [Ag] at hc;obtain ⟨⟨hl1,hs1⟩,hle,hzl⟩:=hc;have hl1:=Ad hl1;have hs1:=Ad hs1;have hle:=Ad hle;have hzl:=Ae hzl;split at hb
   .rename_i cells aK;obtain ⟨hn,hb⟩:=Zu hb;have hn:=Ae hn;simp only [Ac,Aa] at hb;obtain ⟨rfl,rfl,rfl⟩:=hb;obtain ⟨_,z,_,_,hzr,hzv⟩:=Yy (ρ:=ρ) hz;have bG:=Jc hzr len (len*i.size) (by rw [hzl]);obtain ⟨arr,h1,h2⟩:=Xa aK bG hp;have hsz:arr.size=len*i.size:=(by rw [<-h2.1,hn]);have hgt': ¬2 ^ 24<len*i.size:=(by omega);have hpos:0<len*i.size:=Nat.mul_pos (by omega) (by omega);have h0: ¬len*i.size=0:=(by omega);have hsz0: ¬i.size=0:=(by omega);exact ⟨arr,e,rfl,h2,by simp [Instr.buildSlice,run_underlying hu,Zj hi,h0,hsz0,hzv,h1,newRow,hgt'],hn,hsz⟩
   .cases hb
  .cases hb
 .cases hb
theorem H6 (op:Op):Ze op≠ .lit :=by
 cases op with
 | call c=>
  obtain ⟨callee,args,argTypes⟩:=c;cases callee with
  | builtin b=>cases b <;> exact fun h=>by cases h
  | value f=>exact fun h=>by cases h
  | invoke r m=>exact fun h=>by cases h
 | _=>exact fun h=>by cases h
theorem Kw (op:Op):Ze op≠ .birth :=by
 cases op with
 | call c=>
  obtain ⟨callee,args,argTypes⟩:=c;cases callee with
  | builtin b=>cases b <;> exact fun h=>by cases h
  | value f=>exact fun h=>by cases h
  | invoke r m=>exact fun h=>by cases h
 | _=>exact fun h=>by cases h
theorem Ib {S:BD} {R:BF} (hN:Va P) (hS:Ys P S) (hRI:Bb R) (hR:Bp P R) {z:Nat} {ops:Array Oper} {x:Bool×Oper} {cx:BK} {st st':St} (hcx:cx.floor<=st.next) (h:C4 z P S R ops cx x st=some st'):
  Fh S z P ops cx x st st':=by
 unfold C4 at h;cases hz:CW z x.2.op with
 | false=>
  rw [hz,Ax] at h;cases hz2:isBirth z x.2.op with
  | false=>
   rw [hz2,Ax] at h;have s:=Hd hN hS hRI hR hcx h;have hk:=II hz hz2;refine ⟨s.inv,fun k=> ?_,?_,?_,?_,s.slot,s.other,fun ho _=>s.does ho,fun ho k=>s.calm ho (by grind),fun _ k=> ?_⟩
   .rw [hk] at k;rcases k with k | k | k
    .exact s.stay (.inl k)
    .exact s.stay (.inr k)
    .exact absurd k (H6 _)
   .rw [hk];exact s.lift
   .rw [hk];exact s.foot
   .intro _ k hg;have k:Ze x.2.op=.alloc :=by
     grind [Kw]
    obtain ⟨t,z0,e1,e2,e3,e4,e5⟩:=s.alloc k hg;refine ⟨z0,t,e3,e4,fun ρ a w ev _ _=> ?_⟩;obtain ⟨vs,hvs,aB⟩:=IA (P:=P) (ρ:=ρ) e1 e2 a w;exact ⟨_,vs,t,rfl,hvs,aB,fun ρ' hρ d hd=>by rw [e5 d hd];exact .ptr _ 0 _ hρ⟩
   grind [H6]
  | true=>
   rw [hz2,Aq] at h;have hk:Zh z x.2.op=.birth :=by unfold Zh;grind
   obtain ⟨lf,o⟩:=x;obtain ⟨dst,op,type,pos,after,guard⟩:=o;simp only at h hz hz2 hk ⊢;cases op with
   | buildSlice t len parts=>
    split at h
    .cases h
    .rename_i st1 hw;obtain ⟨w1,w2,w3⟩:=Yz hw;unfold GJ at h;simp only at h;split at h
     .rename_i cells e sz hv;obtain ⟨p1,p2,p3,p4⟩:=Yx h;have bH: ∀d,dst=some d->st'.tmp d=.sl st1.next 0 len (bif cx.sym then .un sz else .ex len):=fun d hd=>by
       rcases p4 with ⟨e,_⟩ | ⟨d',e,_,he⟩
       .grind
       .rw [hd] at e;obtain rfl:=Ab e;show T.get .undef st'.env d=_;rw [he,T.get_set,Ap rfl]
      have hi1:Zf cx.floor st st1:=Zf.same w1 w2 fun ho=>(w3 ho).1;have hi2:Zf cx.floor (Um st1 cells e) st':=Zf.same p1 p2 fun ho=>by grind
      obtain ⟨env1,Bh,next1,orc1,ob1⟩:=st1;simp only [Um] at p1 p2 p3 p4;simp only at w1 w2 bH;refine ⟨(hi1.trans (Zf.new _ _ _)).trans hi2,(fun k=>by grind),(fun _ _ k=>by grind),(fun _ k=>by grind),fun ho _ _=> ?_,fun d hd=> ?_,fun ho t ht=> ?_,(fun _ k=>by grind),(fun _ k=>by grind),(fun _ k=>by grind)⟩
      .have ho1:ob1=true:=(by grind);have aS:=(w3 ho1).2;refine ⟨cells,e,by grind,by rw [p2,w2],fun ρ a w ev hev hr=> ?_⟩;have bK: ∀y,St.eval ⟨env1,Bh,next1,orc1,ob1⟩ y=st.eval y:=fun y=>by cases y <;> first | rfl | exact aS _
       have hpr:Wp ρ (parts.toList.map fun p=>(p.1,St.eval ⟨env1,Bh,next1,orc1,ob1⟩ p.2)) (parts.toList.map fun p=>(p.1,a.eval p.2)):=Vy parts.toList fun p hp=>by have hm:p.2∈(Op.buildSlice t len parts).operands :=(by grind [Op.operands]);rw [bK p.2,<-hev p.2 hm];exact hr p.2 hm
       obtain ⟨vs,el,hel,hvs,aB,hn1,hn2⟩:=JS (w:=w) hv hpr;have hpa:(parts.map fun (i,x)=>(i,a.eval x))=(parts.toList.map fun p=>(p.1,a.eval p.2)).toArray :=by
        grind
       refine ⟨.slice (some ⟨w.heap.size,0,none⟩) len len,vs,el,hel,hvs,by simp [execOp,hpa,aB],fun ρ' hρ d hd=> ?_⟩;rw [bH d hd,w2];refine .sl _ 0 len _ ⟨w.heap.size,0,cells.length,vs.size⟩ len hρ ?_ (Ah _);cases cx.sym with
       | true=>exact ⟨by grind,by grind⟩
       | false=>exact rfl
      .grind
      .have ho1:ob1=true:=(by grind);rw [<-(w3 ho1).2 t];show T.get .undef st'.env t=T.get .undef env1 t
       grind [T.get_set]
     .cases h
    .rename_i st1 hw;obtain ⟨w1,w2,w3⟩:=Yz hw;obtain ⟨p1,p2,p3,p4⟩:=Yx h;have hi1:Zf cx.floor st st1:=Zf.same w1 w2 fun ho=>(w3 ho).1;have hi2:Zf cx.floor st1 st':=Zf.same p1 p2 fun ho=>by grind
     refine ⟨hi1.trans hi2,(fun k=>by grind),(fun _ _ k=>by grind),(fun _ k=>by grind),fun _ _ hg=> ?_,fun d hd=> ?_,fun ho t ht=> ?_,(fun _ k=>by grind),(fun _ k=>by grind),(fun _ k=>by grind)⟩
     .grind [Xp,Jp]
     .grind
     .have ho1:st1.ob=true:=(by grind);rw [<-(w3 ho1).2 t];show T.get .undef st'.env t=T.get .undef st1.env t
      grind [T.get_set]
   | _=>cases hz2
 | true=>
  rw [hz,Aq] at h;have hk:Zh z x.2.op=.lit :=by unfold Zh;rw [hz];rfl
  obtain ⟨lf,o⟩:=x;obtain ⟨dst,op,type,pos,after,guard⟩:=o;simp only at h hz hk ⊢;cases op with
  | buildSlice t len parts=>
   split at h
   .cases h
   .rename_i st1 hw;obtain ⟨w1,w2,w3⟩:=Yz hw;unfold GA at h;simp only at h;split at h
    .rename_i v hv;obtain ⟨p1,p2,p3,p4⟩:=Yx h;have bH: ∀d,dst=some d->st'.tmp d=v:=fun d hd=>by
      rcases p4 with ⟨e,_⟩ | ⟨d',e,_,he⟩
      .grind
      .rw [hd] at e;obtain rfl:=Ab e;show T.get .undef st'.env d=v;rw [he,T.get_set,Ap rfl]
     have hi1:Zf cx.floor st st1:=Zf.same w1 w2 fun ho=>(w3 ho).1;have hi2:Zf cx.floor st1 st':=Zf.same p1 p2 fun ho=>by grind
     refine ⟨hi1.trans hi2,fun _=>⟨p1.trans w1,p2.trans w2⟩,(fun _ _ k=>by grind),(fun _ k=>by grind),(fun _ k=>by grind),fun d hd=> ?_,fun ho t ht=> ?_,(fun _ k=>by grind),(fun _ k=>by grind),fun ho _ ρ a w ev mem next hsz hev hgr hr aA K Q hK=> ?_⟩
     .grind
     .have ho1:st1.ob=true:=(by grind);rw [<-(w3 ho1).2 t];show T.get .undef st'.env t=T.get .undef st1.env t
      grind [T.get_set]
     .have ho1:st1.ob=true:=(by grind);have aS:=(w3 ho1).2;have bK: ∀y,st1.eval y=st.eval y:=fun y=>by cases y <;> first | rfl | exact aS _
      rw [Ye hw ho1 hsz hgr,Ap rfl];have hpr:Wp ρ (parts.toList.map fun p=>(p.1,st1.eval p.2)) (parts.toList.map fun p=>(p.1,a.eval p.2)):=Vy parts.toList fun p hp=>by have hm:p.2∈(Op.buildSlice t len parts).operands :=(by grind [Op.operands]);rw [bK p.2,<-hev p.2 hm];exact hr p.2 hm
      obtain ⟨u,vs,el,aB,hu⟩:=Il hv hpr (aA.hold w.heap.size (Ah _));have:(parts.map fun (i,x)=>(i,a.eval x))=(parts.toList.map fun p=>(p.1,a.eval p.2)).toArray :=by
       grind
      unfold Oper.wp;have hrun':(execOp a.eval ⟨dst,.buildSlice t len parts,type,pos,after,guard⟩).run P w=.ok (.value u) {w with heap:=w.heap.push (.cells vs el)}:=by simp [execOp,this,aB]
      rw [hrun'];exact hK _ u _ (fun d hd=>by grind) (aA.froze vs el) (fun _=>rfl) fun floor m=>Ev.froze aA floor m vs el
    .cases h
   .rename_i st1 hw;obtain ⟨w1,w2,w3⟩:=Yz hw;obtain ⟨p1,p2,p3,p4⟩:=Yx h;have bH: ∀d,dst=some d->st'.tmp d=.tup []:=fun d hd=>by
     rcases p4 with ⟨e,_⟩ | ⟨d',e,_,he⟩
     .grind
     .rw [hd] at e;obtain rfl:=Ab e;show T.get .undef st'.env d=_;rw [he,T.get_set,Ap rfl]
    have hi1:Zf cx.floor st st1:=Zf.same w1 w2 fun ho=>(w3 ho).1;have hi2:Zf cx.floor st1 st':=Zf.same p1 p2 fun ho=>by grind
    refine ⟨hi1.trans hi2,fun _=>⟨p1.trans w1,p2.trans w2⟩,(fun _ _ k=>by grind),(fun _ k=>by grind),(fun _ k=>by grind),fun d hd=> ?_,fun ho t ht=> ?_,(fun _ k=>by grind),(fun _ k=>by grind),fun ho _ ρ a w ev mem next hsz hev hgr hr aA K Q hK=> ?_⟩
    .grind
    .have ho1:st1.ob=true:=(by grind);rw [<-(w3 ho1).2 t];show T.get .undef st'.env t=T.get .undef st1.env t
     grind [T.get_set]
    .have ho1:st1.ob=true:=(by grind);rw [Ye hw ho1 hsz hgr,Aj Bool.false_ne_true];exact hK ρ undef w (fun d hd=>by rw [bH d hd];exact .tup [] #[] rfl fun i h1 _=>by simp at h1) aA (fun _=>rfl) fun floor m=>Ev.refl _ _ _ _ _ aA.dom
  | _=>cases hz
end
section
variable {ops:Array Oper}
def Ja (ops:Array Oper) (S:Nat->Bool):Prop:= ∀j o,ops[j]? =some o->S j=true-> ∀e∈o.after.toList,Region.binds .any e=true->S e.on=true
def Bt (S:Nat->Bool) (o:Oper):Prop:= ∀e∈o.after.toList,Region.binds .any e=true->S e.on=true
def Kq (ops:Array Oper) (i:Nat) (o:Oper):Prop:= ∀S,Ja ops S->Bt S o->S i=true
theorem HN (acc:List Nat) (i:Nat): ∀(es:List Edge) (s:Nat),(es.foldl (fun s e=>bif Region.binds .any e then s||| (2 ^ e.on)||| acc.getD e.on 0 else s) s).testBit i=true->
  s.testBit i=true\/ ∃e∈es,Region.binds .any e=true/\(e.on=i\/(acc.getD e.on 0).testBit i=true)
 | [],s,h=>.inl h
 | e::es,s,h=>by
  simp only [List.foldl_cons] at h;rcases HN acc i es _ h with h | ⟨e',he',h1,h2⟩;all_goals grind
theorem HM (bO: ∀(j:Nat) o,ops[j]? =some o-> ∀e∈o.after.toList,Region.binds .any e=true->e.on<j): ∀(l:List Oper) (acc:List Nat),acc.length+l.length=ops.size->(∀k,l[k]? =ops[acc.length+k]?)->
  (∀k o,k<acc.length->ops[k]? =some o-> ∀i,(acc.getD k 0).testBit i=true->i<k/\Kq ops i o)->
  ∀k o,ops[k]? =some o-> ∀i,((Be l acc).getD k 0).testBit i=true->i<k/\Kq ops i o
 | [],acc,aC,_,hacc,k,o,ho,i,h=>by have hk:k<ops.size:=(Al.1 ho).1;simp at aC;exact hacc k o (by omega) ho i h
 | x::l,acc,aC,hl,hacc,k,o,ho,i,h=>by
  unfold Be at h;refine HM bO l (acc++[x.after.toList.foldl (fun s e=>bif Region.binds .any e then s||| (2 ^ e.on)||| acc.getD e.on 0 else s) 0]) (by grind) (fun k=>by
   have:=hl (k+1)
   simpa [AA,Nat.add_comm 1 k] using this) (fun k' o' hk' ho' i' hi'=> ?_) k o ho i h
  by_cases hlt:k'<acc.length
  .refine hacc k' o' hlt ho' i' ?_
   grind
  .have hk2:k'=acc.length:=by grind
   subst hk2;have hx:ops[acc.length]? =some x:=by simpa using (hl 0).symm
   rw [hx] at ho';obtain rfl:=Ab ho';have hg:(acc++[x.after.toList.foldl (fun s e=>bif Region.binds .any e then s||| (2 ^ e.on)||| acc.getD e.on 0 else s) 0]).getD acc.length 0=x.after.toList.foldl (fun s e=>bif Region.binds .any e then s||| (2 ^ e.on)||| acc.getD e.on 0 else s) 0:=by
    grind
   rw [hg] at hi';rcases HN acc i' _ _ hi' with h0 | ⟨e,he,hb,h1⟩
   .simp at h0
   .have hlt':=bO _ _ hx e he hb;rcases h1 with rfl | h1
    .exact ⟨hlt',fun S _ hr=>hr e he hb⟩
    .have ho2:ops[e.on]? =some (ops[e.on]'(by grind)):=(by simp);obtain ⟨q1,q2⟩:=hacc e.on _ hlt' ho2 i' h1;exact ⟨by omega,fun S hc hr=>q2 S hc fun e' he' hb'=>hc e.on _ ho2 (hr e he hb) e' he' hb'⟩
theorem GF {z:Nat} {op:Op} {k:Bi} (hk:k≠ .lit) (hb:k≠ .birth):Zh z op=k↔Ze op=k/\CW z op=false/\isBirth z op=false:=by
 grind [Zh]
theorem Is {z:Nat} {op:Op} (h:CW z op=true):Ze op=.chain :=by
 cases op <;> first | rfl | (cases h;done)
theorem JY {z:Nat} {op:Op} (h:isBirth z op=true):Ze op=.chain :=by
 cases op <;> first | rfl | (cases h;done)
theorem HR {z:Nat} {op:Op} {k:Bi} (hk:k≠ .lit) (hb:k≠ .birth) (hc:k≠ .chain):Zh z op=k↔Ze op=k:=by
 rw [GF hk hb]
 grind [Is,JY]
theorem Vu {z:Nat} {op:Op}:Zh z op=.alloc ↔Ze op=.alloc :=HR (fun h=>by cases h) (fun h=>by cases h) fun h=>by cases h
theorem H7 {z:Nat} {op:Op}:Zh z op=.read ↔Ze op=.read :=HR (fun h=>by cases h) (fun h=>by cases h) fun h=>by cases h
theorem Qa {z:Nat} {op:Op} (h:Zh z op=.birth):isBirth z op=true:=by
 grind [Zh,Kw]
structure Gm (z:Nat) (ops:Array Oper):Prop where
 ord: ∀(j:Nat) o,ops[j]? =some o-> ∀e∈o.after.toList,Region.binds .any e=true->e.on<j
 guard: ∀(j:Nat) o,ops[j]? =some o->(Zh z o.op=.alloc \/Zh z o.op=.birth)->o.guard=none
 bits: ∀(j:Nat) o,ops[j]? =some o-> ∀i,((Be ops.toList []).getD j 0).testBit i=true->i<j/\Kq ops i o
 pair: ∀(i j:Nat) p o,i<j->ops[i]? =some p->ops[j]? =some o->Kq ops i o\/(p.apart ops o=true/\Fy (Zh z p.op) (Zh z o.op)=true/\(Zh z o.op=.read ->Vi ops i=true)/\(Zh z p.op=.read ->Vi ops j=true))
 dst: ∀(i j:Nat) p o d,i<j->ops[i]? =some p->ops[j]? =some o->p.dst=some d->o.dst≠some d
 alloc: ∀(i j:Nat) p o,i<j->ops[i]? =some p->ops[j]? =some o->Zh z o.op=.alloc ->p.apart ops o=true
 birth: ∀(i j:Nat) p o,i<j->ops[i]? =some p->ops[j]? =some o->Zh z o.op=.birth -> ¬(Zh z p.op=.chain \/Zh z p.op=.call)
theorem Ue {z:Nat} (h:Qr z ops=true):Gm z ops:=by
 have hj: ∀(j:Nat) o,ops[j]? =some o->(o.after.toList.all (fun e=> !Region.binds .any e||Nat.ble (e.on+1) j)=true/\(!(Ze o.op == .alloc ||isBirth z o.op)||o.guard.isNone)=true)/\ ∀(i:Nat) p,i<j->ops[i]? =some p->F7 z ops i j p o=true:=by
  intro j o ho;have hlt:j<ops.size:=(Al.1 ho).1;have:=Ao.1 h j (At.2 hlt)
  grind
 have ord: ∀(j:Nat) o,ops[j]? =some o-> ∀e∈o.after.toList,Region.binds .any e=true->e.on<j:=by intro j o ho e he hb;have:=Ao.1 (hj j o ho).1.1 e he;rw [hb] at this;exact Ad (by grind)
 have bits:=HM ord ops.toList [] (by simp) (fun k=>by simp) (fun k o hk=>by simp at hk);refine ⟨ord,fun j o ho hk=> ?_,fun j o ho i hb=>bits j o ho i hb,fun i j p o hij hp ho=> ?_,fun i j p o d hij hp ho hd=> ?_,fun i j p o hij hp ho hk=> ?_,fun i j p o hij hp ho hk hc=> ?_⟩
 .have:=(hj j o ho).1.2;rcases hk with hk | hk;all_goals simp_all [Vu,Qa]
 .have hpo:=(hj j o ho).2 i p hij hp;unfold F7 at hpo;simp only [Ag,AR] at hpo;cases hb:((Be ops.toList []).getD j 0).testBit i with
  | true=>grind
  | false=>
   right;rcases hpo.1.1.1 with h1 | ⟨h1,h2⟩
   .grind
   .have hi:i<ops.size:=(Al.1 hp).1;have hjl:j<ops.size:=(Al.1 ho).1;refine ⟨h1,h2,fun hr=> ?_,fun hr=> ?_⟩
    .unfold Vi;rw [List.any_eq_true];refine ⟨j,At.2 hjl,?_⟩;rw [ho,Option.any_some,H7.1 hr,hb];have:Nat.ble (i+1) j=true:=Aw hij
     grind
    .unfold Vi;rw [List.any_eq_true];refine ⟨i,At.2 hi,?_⟩;rw [hp,Option.any_some,H7.1 hr,hb];have:Nat.ble (i+1) j=true:=Aw hij
     grind
 all_goals grind [F7,Vu,Qa]
theorem Yr {z:Nat} {i:Nat} {o:Oper} (ho:ops[i]? =some o):isAlloc ops i=true↔Zh z o.op=.alloc :=by
 grind [Vu,isAlloc]
theorem Jq (i:Nat):i∈Zm ops↔i<ops.size:=by
 grind [Zm]
theorem Zo :(Zm ops).length =ops.size:=by
 unfold Zm;rw [List.length_append,<-List.countP_eq_length_filter,<-List.countP_eq_length_filter];have:=List.length_eq_countP_add_countP (isAlloc ops) (l:=List.range ops.size)
 grind
def Gk (ops:Array Oper) (i j:Nat):Prop:=(isAlloc ops i=true/\isAlloc ops j=false)\/(isAlloc ops i=isAlloc ops j/\i<j)
theorem Jk :(Zm ops).Pairwise (Gk ops):=by
 unfold Zm;rw [List.pairwise_append];have hr:(List.range ops.size).Pairwise (· < ·):=List.pairwise_lt_range;refine ⟨?_,?_,?_⟩
 .refine ((hr.filter _).imp_of_mem fun {a b} ha hb h=> ?_);have h1:=(AH.1 ha).2;have h2:=(AH.1 hb).2;exact .inr ⟨h1.trans h2.symm,h⟩
 .refine ((hr.filter _).imp_of_mem fun {a b} ha hb h=> ?_);have h1:=(AH.1 ha).2;have h2:=(AH.1 hb).2;refine .inr ⟨?_,h⟩
  grind
 .intro a ha b hb;have h1:=(AH.1 ha).2;have h2:=(AH.1 hb).2;exact .inl ⟨h1,by grind⟩
theorem JX {k1 k2:Nat} (h:k1<k2) (h2:k2<(Zm ops).length):Gk ops ((Zm ops)[k1]'(by omega)) (Zm ops)[k2]:=
 List.pairwise_iff_getElem.1 Jk k1 k2 (by omega) h2 h
end
def DG (ops:Array Oper) (x y:BW):Prop:=clash x.2.1 y.2.2=true\/clash x.2.2 y.2.1=true->ordered ops x.1 y.1=true
theorem Ir {ops:Array Oper} {x y:BW} (h:F4 ops x y=true):DG ops x y:=by
 intro hc
 grind [F4]
theorem Vx {z:Nat} {P:Program} {S:BD} {R:BF} {ops:Array Oper} {cx:BK}: ∀(l:List (Nat×Bool×Oper)) (acc:List BW) (st st':St),Je z P S R ops cx l acc st=some st'->
  ∃f:Nat->St,f 0=st/\f l.length=st'/\(∀(k:Nat) (h:k<l.length),C4 z P S R ops cx l[k].2 (f k)=some (f (k+1)))/\
   (∀(k:Nat) (h:k<l.length),∀y∈acc,DG ops (Vo S l[k] (f k).eval) y\/lateF z ops l[k] (f k).eval (f k).mem y=true)/\
   ∀(q k:Nat) (hq:q<k) (h:k<l.length),DG ops (Vo S l[k] (f k).eval) (Vo S (l[q]'(by omega)) (f q).eval)\/lateF z ops l[k] (f k).eval (f k).mem (Vo S (l[q]'(by omega)) (f q).eval)=true
 | [],acc,st,st',h=>by have h:some st=some st':=h;obtain rfl:=Ab h;exact ⟨fun _=>st,rfl,rfl,fun k h=>by simp at h,fun k h=>by simp at h,fun q k _ h=>by simp at h⟩
 | x::l,acc,st,st',h=>by
  have h:(bif acc.all (fun y=>F4 ops (Vo S x st.eval) y||lateF z ops x st.eval st.mem y) then
    match C4 z P S R ops cx x.2 st with
    | some st'=>Je z P S R ops cx l (Vo S x st.eval::acc) st'
    | none=>none
   else none)=some st':=h
  obtain ⟨hacc,h⟩:=Zu h;split at h
  .rename_i st1 h1;obtain ⟨f,f0,fn,fs,fa,fp⟩:=Vx l _ st1 st' h;refine ⟨fun k=>match k with | 0=>st | k+1=>f k,rfl,fn,fun k hk=> ?_,fun k hk y hy=> ?_,fun q k hqk hk=> ?_⟩;all_goals grind [Ir]
  .cases h
theorem H1 {S:BD} {op:Op} (h:Ze op=.chain) (ev:Operand->BA):B6 S op ev=BZ op ev:=by
 cases op with
 | call c=>
  obtain ⟨callee,args,argTypes⟩:=c;cases callee with
  | value f=>cases h
  | _=>rfl
 | _=>rfl
theorem Vq (p q:Nat->Bool) (i:Nat): ∀(n:Nat),(∀k,k≠i->q k=p k)->p i=true->q i=false->i<n->(List.range n).countP q+1=(List.range n).countP p
 | 0,_,_,_,h=>absurd h (Ar _)
 | n+1,hpq,hp,hq,h=>by
  rw [List.range_succ,List.countP_append,List.countP_append];by_cases hi:i<n
  .have:=Vq p q i n hpq hp hq hi
   grind
  .have hin:i=n:=by omega
   subst hin;have e:(List.range i).countP q=(List.range i).countP p:=List.countP_congr fun k hk=>by
    grind
   grind
section
variable {P:Program}
theorem BC.unborn {ρ:BB} {mem:BI} {next:Nat} {w:World} (h:BC ρ mem next w) (o:Option BG):BC ρ (Zt mem next o) (next+1) w:=by
 have ne: ∀b l,ρ b=some l->b≠next:=fun b l e=>by have:=h.dom b l e;omega
 refine ⟨fun b l e=>by have:=h.dom b l e;omega,fun b b' l l' e e' he hs hs'=> ?_,fun b l ab e hm=> ?_,h.old,fun b l e hs=>h.sep b l e (by rwa [Zx _ _ (ne b l e)] at hs),h.real,fun b hb=>by rw [Zx _ _ (by omega)];exact h.bd b (by omega),⟨fun j l e=>AE (h.ldom.1 j l e),h.ldom.2⟩⟩
 .rw [Zx _ _ (ne b l e)] at hs;rw [Zx _ _ (ne b' l' e')] at hs';exact h.inj b b' l l' e e' he hs hs'
 .rw [Zx _ _ (ne b l e)] at hm;exact h.blk b l ab e hm
theorem BC.birth {ρ:BB} {mem:BI} {next:Nat} {w:World} (h:BC ρ mem next w) {b:Nat} {cs:List BA} {ty:TypeId} (hb:b<next) (hn:ρ b=none) (hm:Zb mem b=some ⟨cs,ty,none⟩) {vs:Array Value} (el:TypeId) (hv:Yg ρ cs vs) (hel:el=ty):
  BC (Yq ρ b ⟨w.heap.size,0,cs.length,vs.size⟩) mem next {w with heap:=w.heap.push (.cells vs el)}:=by
 have hle:=Xb (l:=⟨w.heap.size,0,cs.length,vs.size⟩) hn;have aG: ∀c l,Yq ρ b ⟨w.heap.size,0,cs.length,vs.size⟩ c=some l->(c=b/\l=⟨w.heap.size,0,cs.length,vs.size⟩)\/(c≠b/\ρ c=some l):=fun c l e=>by
  grind [Yb]
 refine ⟨fun c l e=> ?_,fun c c' l l' e e' hbl hs hs'=> ?_,fun c l ab e hc=> ?_,fun k o e=> ?_,fun c l e=> ?_,fun c l e=> ?_,h.bd,h.ldom⟩
 .rcases aG c l e with ⟨rfl,_⟩ | ⟨_,e⟩
  .exact hb
  .exact h.dom c l e
 .rcases aG c l e with ⟨hc,hl⟩ | ⟨hc,e2⟩ <;> rcases aG c' l' e' with ⟨hc',hl'⟩ | ⟨hc',e2'⟩
  .rw [hc,hc']
  .have:=h.real c' l' e2';grind
  .have:=h.real c l e2;grind
  .exact h.inj c c' l l' e2 e2' hbl hs hs'
 .rcases aG c l e with ⟨rfl,rfl⟩ | ⟨_,e⟩
  .rw [hm] at hc;obtain rfl:=Ab hc;have h1:=hv.1;refine .plain ⟨by simp [hel],rfl,by grind,(fun A e=>by cases e),vs,el,by simp,by simp,fun i hi=> ?_⟩;have h2:i<vs.size:=by grind
   exact ⟨vs[i],by grind,(hv.2 i hi h2).mono hle⟩
  .refine (h.blk c l ab e hc).world hle ?_;have:=h.real c l e
   grind
 .have hk:=h.old k o e
  grind
 .intro hs;rcases aG c l e with ⟨rfl,rfl⟩ | ⟨_,e⟩
  .exact h.hold _ (Ah _)
  .exact h.sep c l e hs
 .rcases aG c l e with ⟨rfl,rfl⟩ | ⟨_,e⟩
  .simp
  .have:=h.real c l e;simp;omega
structure BS (S:BD) (z:Nat) (P:Program) (ops:Array Oper) (cx:BK) (st:St) (f:Nat->St):Prop where
 chk:Gm z ops
 f0:f 0=st
 hcx:cx.floor<=st.next
 ob: ∀k,k<=ops.size->(f k).ob =true
 step: ∀(k:Nat) (h:k<(Zm ops).length),Fh S z P ops cx (Vi ops (Zm ops)[k],ops.getD (Zm ops)[k] default) (f k) (f (k+1))
 foot: ∀(q k:Nat) (hq:q<k) (h:k<(Zm ops).length),DG ops (Vo S ((Zm ops)[k],Vi ops (Zm ops)[k],ops.getD (Zm ops)[k] default) (f k).eval) (Vo S ((Zm ops)[q],Vi ops (Zm ops)[q],ops.getD (Zm ops)[q] default) (f q).eval)\/
  lateF z ops ((Zm ops)[k],Vi ops (Zm ops)[k],ops.getD (Zm ops)[k] default) (f k).eval (f k).mem (Vo S ((Zm ops)[q],Vi ops (Zm ops)[q],ops.getD (Zm ops)[q] default) (f q).eval)=true
variable {Sp:BD} {z:Nat} {ops:Array Oper} {cx:BK} {st:St} {f:Nat->St}
def BE (ops:Array Oper) (k:Nat):Nat:=(Zm ops).getD k ops.size
theorem Fj {k:Nat} (h:k<ops.size):BE ops k<ops.size:=by
 have hl:k<(Zm ops).length :=by rw [Zo];exact h
 have:BE ops k=(Zm ops)[k]:=by simp [BE,hl]
 rw [this];exact (Jq _).1 (Az hl)
theorem Wi {k1 k2:Nat} (h:k1<k2) (h2:k2<ops.size):Gk ops (BE ops k1) (BE ops k2):=by
 grind [Zo,JX,BE]
theorem GQ {i:Nat} (h:i<ops.size): ∃k,k<ops.size/\BE ops k=i:=by obtain ⟨k,hk,e⟩:=AP ((Jq (ops:=ops) i).2 h);exact ⟨k,by rw [Zo] at hk;exact hk,by simp [BE,hk,e]⟩
theorem BS.step' (g:BS Sp z P ops cx st f) {k:Nat} (h:k<ops.size): ∃o,ops[BE ops k]? =some o/\Fh Sp z P ops cx (Vi ops (BE ops k),o) (f k) (f (k+1)):=by
 have hl:k<(Zm ops).length :=by rw [Zo];exact h
 have e:BE ops k=(Zm ops)[k]:=by simp [BE,hl]
 have hlt:=Fj h;refine ⟨ops[BE ops k],by simp [hlt],?_⟩;have:=g.step k hl;rw [<-e] at this;have hd:ops.getD (BE ops k) default=ops[BE ops k]:=by simp [hlt]
 grind
theorem BS.foot' (g:BS Sp z P ops cx st f) {q k:Nat} (hq:q<k) (h:k<ops.size) {o x:Oper} (ho:ops[BE ops k]? =some o) (hx:ops[BE ops q]? =some x):
  DG ops (BE ops k,B5 o.op (f k).eval,B6 Sp o.op (f k).eval) (BE ops q,B5 x.op (f q).eval,B6 Sp x.op (f q).eval)\/lateF z ops (BE ops k,Vi ops (BE ops k),o) (f k).eval (f k).mem (BE ops q,B5 x.op (f q).eval,B6 Sp x.op (f q).eval)=true:=by
 have hl:k<(Zm ops).length :=by rw [Zo];exact h
 have hl2:q<(Zm ops).length :=by omega
 have e:BE ops k=(Zm ops)[k]:=by simp [BE,hl]
 have e2:BE ops q=(Zm ops)[q]:=by simp [BE,hl2]
 have:=g.foot q k hq hl;rw [<-e,<-e2] at this;have hd:ops.getD (BE ops k) default=o:=by simp [ho]
 have hd2:ops.getD (BE ops q) default=x:=by simp [hx]
 rw [hd,hd2] at this;exact this
theorem BS.next_le (g:BS Sp z P ops cx st f): ∀{a b:Nat},a<=b->b<=ops.size->(f a).next <=(f b).next :=by
 intro a b hab hb
 induction b with
 | zero=>grind
 | succ b ih=>
  by_cases e:a=b+1
  .grind
  .obtain ⟨o,_,s⟩:=g.step' (k:=b) (by omega);exact Ay (ih (by omega) (by omega)) s.inv.nxt
theorem BS.bd (g:BS Sp z P ops cx st f) (h0: ∀b,st.next<=b->Zb st.mem b=none): ∀{k:Nat},k<=ops.size-> ∀b,(f k).next <=b->Zb (f k).mem b=none:=by
 intro k hk
 induction k with
 | zero=>rw [g.f0];exact h0
 | succ k ih=>obtain ⟨o,_,s⟩:=g.step' (k:=k) (by omega);exact s.inv.bd (ih (by omega))
theorem BS.slot_stays (g:BS Sp z P ops cx st f) {t:Tmp}: ∀{a b:Nat},a<=b->b<=ops.size->(∀k o,a<=k->k<b->ops[BE ops k]? =some o->o.dst≠some t)->(f b).tmp t=(f a).tmp t:=by
 intro a b hab hb hno
 induction b with
 | zero=>grind
 | succ b ih=>
  by_cases e:a=b+1
  .subst e;rfl
  .obtain ⟨o,ho,s⟩:=g.step' (k:=b) (by omega);rw [s.other (g.ob _ hb) t (hno b o (by omega) (by omega) ho)]
   grind
def Xd (z:Nat) (o:Oper):Prop:=Zh z o.op=.chain \/Zh z o.op=.call
def C0 (z:Nat) (o:Oper):Prop:=Zh z o.op=.pure \/Zh z o.op=.lit
def Jv (z:Nat) (o:Oper):Prop:=Zh z o.op=.alloc \/Zh z o.op=.birth
theorem CZ (z:Nat) (o:Oper):C0 z o\/Zh z o.op=.read \/Jv z o\/Xd z o:=by unfold Xd C0 Jv;cases Zh z o.op <;> simp
theorem BS.mem_stays (g:BS Sp z P ops cx st f): ∀{a b:Nat},a<=b->b<=ops.size->(∀k o,a<=k->k<b->ops[BE ops k]? =some o->C0 z o\/Zh z o.op=.read)->(f b).mem =(f a).mem /\(f b).next =(f a).next :=by
 intro a b hab hb hno
 induction b with
 | zero=>grind
 | succ b ih=>
  by_cases e:a=b+1
  .grind
  .obtain ⟨o,ho,s⟩:=g.step' (k:=b) (by omega);obtain ⟨e1,e2⟩:=s.stay (by rcases hno b o (by omega) (by omega) ho with (k | k) | k <;> simp [k])
   grind
theorem BS.blk_stays (g:BS Sp z P ops cx st f) {x:Nat}: ∀{a b:Nat},a<=b->b<=ops.size->x<(f a).next ->
  (∀k o,a<=k->k<b->ops[BE ops k]? =some o->C0 z o\/Zh z o.op=.read \/(Zh z o.op=.call /\Vi ops (BE ops k)=true/\B6 Sp o.op (f k).eval ≠some x)\/(Zh z o.op=.chain /\BZ o.op (f k).eval ≠some x)\/Jv z o)->Zb (f b).mem x=Zb (f a).mem x:=by
 intro a b hab hb hx hno
 induction b with
 | zero=>grind
 | succ b ih=>
  by_cases e:a=b+1
  .subst e;rfl
  .obtain ⟨o,ho,s⟩:=g.step' (k:=b) (by omega);have ih:=ih (by omega) (by omega) fun k o h1 h2=>hno k o h1 (by omega);rw [<-ih];rcases hno b o (by omega) (by omega) ho with h1 | h1 | ⟨h1,h2,h3⟩ | ⟨h1,h2⟩ | h1
   .rw [(s.stay (by rcases h1 with k | k <;> simp [k])).1]
   .rw [(s.stay (.inr (.inl h1))).1]
   .exact s.lift (g.ob _ hb) h2 h1 x (Av hx (g.next_le (by omega) (by omega))) h3
   .exact s.foot (g.ob _ hb) h1 x (Av hx (g.next_le (by omega) (by omega))) h2
   .obtain ⟨cells,ty,e1,_,_⟩:=s.fresh (g.ob _ hb) h1 (g.chk.guard _ o ho h1);have:=Av hx (g.next_le (a:=a) (b:=b) (by omega) (by omega));rw [e1,Zx _ _ (by omega)]
structure Bc (z:Nat) (P:Program) (D:List Deferred) (ops:Array Oper) (cx:BK) (st:St) (f:Nat->St) (ρ0:BB) (w0:World) (S:Nat->Bool) (p:Nat) (ρ:BB) (a:Act) (w:World):Prop where
 closed:Ja ops S
 defers:a.defers=D
 tsz:a.tmps.size=cx.n
 done: ∀k o d,k<ops.size->ops[BE ops k]? =some o->S (BE ops k)=true->o.dst=some d->Zp ρ ((f (k+1)).tmp d) (a.tmps.getD d undef)
 undone: ∀t,(∀i o,ops[i]? =some o->S i=true->o.dst≠some t)->Zp ρ (st.tmp t) (a.tmps.getD t undef)
 ple:p<=ops.size
 past: ∀k o,k<ops.size->ops[BE ops k]? =some o->Jv z o->k<p
 chain: ∀k o,k<ops.size->ops[BE ops k]? =some o->Xd z o->(S (BE ops k)=true↔k<p)
 rel:BC ρ (f p).mem (f p).next w
 ev:Ev ρ0 ρ cx.floor st.mem st.next (f p).mem (f p).next w0 w
 late: ∀k q o x b ab,k<q->q<p->q<ops.size->ops[BE ops k]? =some o->ops[BE ops q]? =some x->S (BE ops k)=false->Xd z x->Wg z ops (BE ops k) (BE ops q)=true->B4 x.op (f q).eval (f q).mem =some b->Zb (f q).mem b=some ab->BC ρ (Zt .leaf b (some ab)) (f p).next w
 allocs: ∀k o,k<ops.size->ops[BE ops k]? =some o->Jv z o->S (BE ops k)=false->st.next<=(f k).next /\(f k).next <(f p).next /\ρ (f k).next =none/\Zb (f p).mem (f k).next =Zb (f (k+1)).mem (f k).next
theorem Qm {o:Oper} {t:Tmp} (h:Operand.tmp t∈o.op.operands):t∈o.looksAt ops:=by unfold Oper.looksAt;rw [List.mem_append];left;rw [List.mem_filterMap];exact ⟨.tmp t,Array.mem_toList_iff.2 h,rfl⟩
theorem JZ {o:Oper} {d:Tmp} (h:Yi ops o=some d):d∈o.looksAt ops:=by
 grind [Oper.looksAt,Yi]
theorem Ip (g:BS Sp z P ops cx st f) {i:Nat} {o:Oper} (ho:ops[i]? =some o) (hk:Zh z o.op=.alloc):o.looksAt ops=[]:=by
 unfold Oper.looksAt;rw [g.chk.guard i o ho (.inl hk)];rw [Vu] at hk;obtain ⟨dst,op,type,pos,after,guard⟩:=o;simp only at hk ⊢;cases op with
 | alloc t=>rfl
 | call c=>
  obtain ⟨callee,args,argTypes⟩:=c;cases callee with
  | builtin b=>cases b <;> cases hk
  | value f=>cases hk
  | invoke r m=>cases hk
 | _=>cases hk
section
variable {D:List Deferred} {ρ0:BB} {w0:World} {S:Nat->Bool} {p:Nat} {ρ:BB} {a:Act} {w:World}
theorem GE (g:BS Sp z P ops cx st f) {i j:Nat} {x y:Oper} {d:Tmp} (hi:ops[i]? =some x) (hj:ops[j]? =some y) (hx:x.dst=some d) (hy:y.dst=some d):i=j:=by
 rcases AK i j with h | h | h
 .exact absurd hy (g.chk.dst i j x y d h hi hj hx)
 .exact h
 .exact absurd hx (g.chk.dst j i y x d h hj hi hy)
theorem Bc.looks (g:BS Sp z P ops cx st f) (I:Bc z P D ops cx st f ρ0 w0 S p ρ a w) {k:Nat} {o:Oper} (hk:k<ops.size) (ho:ops[BE ops k]? =some o) (hns:S (BE ops k)=false) (aI:Bt S o) {t:Tmp} (ht:t∈o.looksAt ops):
  Zp ρ ((f k).tmp t) (a.tmps.getD t undef):=by
 by_cases hw: ∃i x,ops[i]? =some x/\S i=true/\x.dst=some t
 .obtain ⟨i,x,hx,hs,hd⟩:=hw;have hil:i<ops.size:=(Al.1 hx).1;obtain ⟨k',hk',rfl⟩:=GQ hil;have hne:k'≠k:=fun e=>by grind
  have hlt:k'<k:=by
   rcases AF k' k with h | h
   .exact h
   .exfalso;have hkk:k<k':=(by omega);rcases AK (BE ops k) (BE ops k') with hij | hij | hij
    .rcases g.chk.pair _ _ _ _ hij ho hx with hf | ⟨hap,_⟩
     .have:=hf S I.closed (fun e he hb=>I.closed _ _ hx hs e he hb)
      grind
     grind [Oper.apart_spec]
    .grind
    .rcases Wi hkk hk' with ⟨h1,_⟩ | ⟨_,h2⟩;all_goals grind [Ip,Yr]
  have hst:(f k).tmp t=(f (k'+1)).tmp t:=g.slot_stays (by omega) (by omega) fun q y h1 h2 hy hyd=>by
   have:=GE g hx hy hd hyd;have e:BE ops k'=BE ops q:=this;rcases Wi (ops:=ops) (k1:=k') (k2:=q) (by omega) (by omega) with ⟨h1,h2⟩ | ⟨_,h2⟩;all_goals grind
  rw [hst];exact I.done k' x t hk' hx hs hd
 .have hno: ∀i x,ops[i]? =some x->S i=true->x.dst≠some t:=fun i x hx hs hd=>hw ⟨i,x,hx,hs,hd⟩;have hst:(f k).tmp t=(f 0).tmp t:=g.slot_stays (AD _) (by omega) fun q y _ h2 hy hyd=>by
   have hqs:S (BE ops q)=false:=by
    grind
   rcases AK (BE ops q) (BE ops k) with hij | hij | hij
   .rcases g.chk.pair _ _ _ _ hij hy ho with hf | ⟨hap,_⟩
    .have:=hf S I.closed aI
     grind
    grind [Oper.apart_spec]
   .rcases Wi (ops:=ops) h2 hk with ⟨h1,h3⟩ | ⟨_,h3⟩;all_goals grind
   .rcases Wi (ops:=ops) h2 hk with ⟨h1,_⟩ | ⟨_,h3⟩
    .have hap:=g.chk.alloc _ _ _ _ hij ho hy ((Yr (z:=z) hy).1 h1)
     grind [Oper.apart_spec]
    .omega
  rw [hst,g.f0];exact I.undone t hno
theorem Bc.operands (g:BS Sp z P ops cx st f) (I:Bc z P D ops cx st f ρ0 w0 S p ρ a w) {k:Nat} {o:Oper} (hk:k<ops.size) (ho:ops[BE ops k]? =some o) (hns:S (BE ops k)=false) (aI:Bt S o):Xk ρ (f k).eval a.eval o.op:=by
 intro x hx;cases x with
 | tmp t=>exact I.looks g hk ho hns aI (Qm hx)
 | const v=>exact Gt v
 | global g=>exact .undef _
 | func f=>exact .fn f [] #[] rfl fun i h1 _=>by simp at h1
theorem Bc.slots (g:BS Sp z P ops cx st f) (I:Bc z P D ops cx st f ρ0 w0 S p ρ a w) {k:Nat} {o:Oper} (hk:k<ops.size) (ho:ops[BE ops k]? =some o) (hns:S (BE ops k)=false) {ρ':BB} (hle:ρ.le ρ') {u:Value}
  (aU: ∀d,o.dst=some d->Zp ρ' ((f (k+1)).tmp d) u) {S':Nat->Bool} (hS: ∀i,S' i=(S i||i == BE ops k)):
  (∀k' x d,k'<ops.size->ops[BE ops k']? =some x->S' (BE ops k')=true->x.dst=some d->Zp ρ' ((f (k'+1)).tmp d) ((a.put o.dst u).tmps.getD d undef))/\
  (∀t,(∀i x,ops[i]? =some x->S' i=true->x.dst≠some t)->Zp ρ' (st.tmp t) ((a.put o.dst u).tmps.getD t undef)):=by
 have other: ∀t,o.dst≠some t->(a.put o.dst u).tmps.getD t undef=a.tmps.getD t undef:=fun t ht=>by
  cases hd:o.dst with
  | none=>rfl
  | some d=>simp_all [Act.put]
 obtain ⟨_,ho',s⟩:=g.step' hk;rw [ho] at ho';obtain rfl:=Ab ho';refine ⟨fun k' x d hk' hx hs hd=> ?_,fun t hno=> ?_⟩
 .by_cases hod:o.dst=some d
  .have e:=GE g ho hx hod hd;have hkk:k'=k:=by
    rcases AK k' k with h | h | h
    .rcases Wi (ops:=ops) h hk with ⟨h1,h3⟩ | ⟨_,h3⟩;all_goals grind
    .exact h
    .rcases Wi (ops:=ops) h hk' with ⟨h1,h3⟩ | ⟨_,h3⟩;all_goals grind
   subst hkk;have hlt:d<a.tmps.size:=by rw [I.tsz];exact s.slot d hod
   simp_all [Act.put]
  .rw [other d hod];have hne:BE ops k'≠BE ops k:=fun e=>by
    grind
   have hs':S (BE ops k')=true:=by
    grind
   exact (I.done k' x d hk' hx hs' hd).mono hle
 .have hod:o.dst≠some t:=hno _ o ho (by rw [hS];simp);rw [other t hod];exact (I.undone t fun i x hx hs=>hno i x hx (by grind)).mono hle
theorem Bc.closes (I:Bc z P D ops cx st f ρ0 w0 S p ρ a w) {i:Nat} {o:Oper} (ho:ops[i]? =some o) (aI:Bt S o) {S':Nat->Bool} (hS: ∀j,S' j=(S j||j == i)):Ja ops S':=by
 intro j x hx hs e he hb;rw [hS] at hs ⊢;by_cases hj:j=i
 .subst hj;rw [ho] at hx;obtain rfl:=Ab hx;rw [aI e he hb];rfl
 .have:S j=true:=by grind
  rw [I.closed j x hx this e he hb];rfl
theorem I0 {i:Nat} {l:Bool} {o:Oper} {ev:Operand->BA} {mem:BI} {y:BW} (h:Zh z o.op=.read):lateF z ops (i,l,o) ev mem y=false:=by
 have hk:B4 o.op ev mem=none:=by
  unfold B4;split
  .rename_i e;rw [e] at h;cases h
  .rfl
 unfold lateF
 grind
theorem I1 {i j b:Nat} {l:Bool} {x:Oper} {ev:Operand->BA} {mem:BI} {wr:Option Nat} (h:lateF z ops (i,l,x) ev mem (j,some b,wr)=true):Wg z ops j i=true/\B4 x.op ev mem=some b:=by
 unfold lateF at h;split at h
 .rename_i j' b' e;simp only [Aa,Ac] at e;obtain ⟨rfl,rfl,rfl⟩:=e;split at h;all_goals simp_all
 .cases h
theorem Bc.between (g:BS Sp z P ops cx st f) (I:Bc z P D ops cx st f ρ0 w0 S p ρ a w) {k:Nat} {o:Oper} (hk:k<ops.size) (ho:ops[BE ops k]? =some o) (hns:S (BE ops k)=false) (aI:Bt S o) (cA:Zh z o.op=.read) {b:Nat} (hb:B5 o.op (f k).eval =some b):
  (∀q x,p<=q->q<k->ops[BE ops q]? =some x->C0 z x\/Zh z x.op=.read \/(Zh z x.op=.call /\Vi ops (BE ops q)=true/\B6 Sp x.op (f q).eval ≠some b)\/(Zh z x.op=.chain /\BZ x.op (f q).eval ≠some b)\/Jv z x)/\
  (∀q x,k<=q->q<p->ops[BE ops q]? =some x->C0 z x\/Zh z x.op=.read \/(Zh z x.op=.call /\Vi ops (BE ops q)=true/\B6 Sp x.op (f q).eval ≠some b)\/(Zh z x.op=.chain /\BZ x.op (f q).eval ≠some b)\/Jv z x\/(Xd z x/\Wg z ops (BE ops k) (BE ops q)=true/\B4 x.op (f q).eval (f q).mem =some b)):=by
 have nal:isAlloc ops (BE ops k)=false:=by
  grind [Yr]
 constructor
 .intro q x h1 h2 hx;rcases CZ z x with h | h | h | h
  .exact .inl h
  .grind
  .grind
  .have hqs:S (BE ops q)=false:=by
    cases e:S (BE ops q) with
    | false=>rfl
    | true=>have:=(I.chain q x (by omega) hx h).1 e;omega
   have hlt:BE ops q<BE ops k:=by
    rcases Wi (ops:=ops) h2 hk with ⟨h3,_⟩ | ⟨_,h3⟩
    .have:=I.past q x (by omega) hx (.inl ((Yr (z:=z) hx).1 h3));omega
    .exact h3
   rcases g.chk.pair _ _ _ _ hlt hx ho with hf | ⟨_,hkd,hl,_⟩
   .have:=hf S I.closed aI
    grind
   .have no:B6 Sp x.op (f q).eval ≠some b:=fun hw=>by
     have:=(g.foot' h2 hk ho hx).resolve_right (fun hl=>by
      rw [I0 cA] at hl;cases hl) (.inl (by rw [hb,hw];exact Nat.beq_refl b))
     unfold ordered at this;simp only [AR] at this;rcases this with this | this
     .have:=(g.chk.bits _ _ hx _ this).1;omega
     .have:=(g.chk.bits _ _ ho _ this).2 S I.closed aI
      grind
    rcases h with h | h;all_goals simp_all [H1,GF]
 .intro q x h1 h2 hx;have hp:=I.ple;rcases CZ z x with h | h | h | h
  .exact .inl h
  .grind
  .grind
  .have hqs:S (BE ops q)=true:=(I.chain q x (by omega) hx h).2 h2;have hne:q≠k:=fun e=>by grind
   have hlt:BE ops k<BE ops q:=by
    rcases Wi (ops:=ops) (k1:=k) (k2:=q) (by omega) (by omega) with ⟨h3,_⟩ | ⟨_,h3⟩;all_goals grind
   rcases g.chk.pair _ _ _ _ hlt ho hx with hf | ⟨_,hkd,_,hl⟩
   .have:=hf S I.closed fun e he hb=>I.closed _ _ hx hqs e he hb
    grind
   .rcases g.foot' (q:=k) (k:=q) (by omega) (by omega) hx ho with hfo | hla
    rotate_left
    .grind [I1]
    have no:B6 Sp x.op (f q).eval ≠some b:=fun hw=>by
     have:=hfo (.inr (by rw [hb,hw];exact Nat.beq_refl b));unfold ordered at this;simp only [AR] at this;rcases this with this | this
     .have:=(g.chk.bits _ _ ho _ this).1;omega
     .have:=(g.chk.bits _ _ hx _ this).2 S I.closed fun e he hb=>I.closed _ _ hx hqs e he hb
      grind
    rcases h with h | h;all_goals simp_all [H1,GF]
theorem Bc.next_chain (g:BS Sp z P ops cx st f) (I:Bc z P D ops cx st f ρ0 w0 S p ρ a w) {k:Nat} {o:Oper} (hk:k<ops.size) (ho:ops[BE ops k]? =some o) (hns:S (BE ops k)=false) (aI:Bt S o) (hch:Xd z o):
  p<=k/\(∀q x,q<ops.size->ops[BE ops q]? =some x->Xd z x->(S (BE ops q)=true↔q<k)):=by
 have nal:isAlloc ops (BE ops k)=false:=by
  cases e:isAlloc ops (BE ops k) with
  | false=>rfl
  | true=>have:=(Yr (z:=z) ho).1 e;rcases hch with h | h <;> rw [h] at this <;> cases this
 have key: ∀q x,q<ops.size->ops[BE ops q]? =some x->Xd z x->(S (BE ops q)=true↔q<k):=by
  intro q x hq hx hxc;have nalx:isAlloc ops (BE ops q)=false:=by
   cases e:isAlloc ops (BE ops q) with
   | false=>rfl
   | true=>have:=(Yr (z:=z) hx).1 e;rcases hxc with h | h <;> rw [h] at this <;> cases this
  have nok: ∀(x y:Oper),Xd z x->Xd z y->Fy (Zh z x.op) (Zh z y.op)=false:=by
   intro x y hx hy;rcases hx with h | h <;> rcases hy with h' | h' <;> rw [h,h'] <;> rfl
  constructor
  .intro hs;rcases AK q k with h | h | h
   .exact h
   .grind
   .exfalso;have hlt:BE ops k<BE ops q:=by
     rcases Wi (ops:=ops) h hq with ⟨h3,_⟩ | ⟨_,h3⟩;all_goals grind
    rcases g.chk.pair _ _ _ _ hlt ho hx with hf | ⟨_,hkd,_⟩
    .have:=hf S I.closed fun e he hb=>I.closed _ _ hx hs e he hb
     grind
    grind
  .intro h;have hlt:BE ops q<BE ops k:=by
    rcases Wi (ops:=ops) h hk with ⟨h3,_⟩ | ⟨_,h3⟩;all_goals grind
   rcases g.chk.pair _ _ _ _ hlt hx ho with hf | ⟨_,hkd,_⟩
   .exact hf S I.closed aI
   grind
 refine ⟨?_,key⟩;rcases AF k p with h | h
 .have:=(I.chain k o hk ho hch).2 h
  grind
 .exact h
end
end
section
variable {Sp:BD} {z:Nat} {P:Program} {D:List Deferred} {ops:Array Oper} {cx:BK} {st:St} {f:Nat->St}
theorem I7 {ρ ρ':BB} {floor:Nat} {m m':BI} {n n':Nat} {w w':World} (h:BC ρ m n w) (h':BC ρ' m' n' w') (e:Ev ρ ρ' floor m n m' n' w w') {b:Nat} {ab:BG} (hm:Zb m b=some ab) (hb: ∀l,ρ b=some l->Ya ρ w' ab l):
  BC ρ' (Zt .leaf b (some ab)) n' w':=by
 have hbn:b<n:=by
  rcases AF b n with g | g
  .exact g
  .rw [h.bd b g] at hm;cases hm
 have hn:=e.nxt;have hg: ∀c,(Zb (Zt .leaf b (some ab)) c).isSome =true->c=b:=fun c hc=>by
  by_cases hcb:c=b
  .exact hcb
  .rw [Zx _ _ hcb] at hc;cases hc
 refine ⟨h'.dom,fun c c' l l' _ _ _ hs hs'=>(hg c hs).trans (hg c' hs').symm,fun c l a hc ha=> ?_,h'.old,fun c l hc hs=> ?_,h'.real,fun c hc=> ?_,h'.ldom⟩
 .obtain rfl:=hg c (by rw [ha];rfl);rw [Zq] at ha;obtain rfl:=Ab ha;rw [e.new c hbn] at hc;have q:=hb l hc;exact q.world e.ext rfl
 .obtain rfl:=hg c hs;rw [e.new c hbn] at hc;rw [e.still _ (h.real c l hc)];exact h.sep c l hc (by rw [hm];rfl)
 .rw [Zx _ _ (by omega)];rfl
theorem KG (g:BS Sp z P ops cx st f) {ρ0:BB} {w0:World} (hout: ∀i,cx.n<=i->T.get .undef st.env i=.undef) (hbd: ∀b,st.next<=b->Zb st.mem b=none): ∀(fuel:Nat) (listed:Array Bool) (p:Nat) (ρ:BB) (a:Act) (w:World),listed.size=ops.size->
  (List.range ops.size).countP (fun i=> !listed.getD i false)=fuel->Bc z P D ops cx st f ρ0 w0 (fun i=>listed.getD i false) p ρ a w->wpAny P .any ops (CE D ρ0 cx st (f ops.size) w0) fuel listed a w:=by
 have someReady: ∀listed:Array Bool,listed.size=ops.size-> ∀i,i<ops.size->listed.getD i false=false-> ∃j,j∈Region.ready .any ops listed:=by
  intro listed hsz i
  induction i using Nat.strongRecOn with
  | _ i ih=>
   intro hi hl;by_cases h: ∃e∈(ops[i]).after.toList,Region.binds .any e=true/\listed.getD e.on false=false
   .obtain ⟨e,he,hb,hf⟩:=h;have hlt:=g.chk.ord i ops[i] (by simp [hi]) e he hb
    grind
   .refine ⟨i,mem_ready.2 ⟨?_,ops[i],by simp [hi],fun e he hb=> ?_⟩⟩;all_goals grind
 intro fuel
 induction fuel with
 | zero=>
  intro listed p ρ a w hsz hcnt I;have bC: ∀i,i<ops.size->listed.getD i false=true:=by simp_all
  refine ⟨?_,rfl,I.defers,ρ,?_,?_,?_⟩
  .simp_all [Region.ready]
  .refine ⟨I.tsz,fun t=> ?_,fun i hi=> ?_⟩
   .by_cases hw: ∃(i:Nat) (x:Oper),ops[i]? =some x/\x.dst=some t
    .obtain ⟨i,x,hx,hd⟩:=hw;have hil:i<ops.size:=(Al.1 hx).1;obtain ⟨k,hk,rfl⟩:=GQ hil;have hst:(f ops.size).tmp t=(f (k+1)).tmp t:=g.slot_stays (by omega) (Ah _) fun q y h1 h2 hy hyd=>by
      have e:BE ops k=BE ops q:=GE g hx hy hd hyd;rcases Wi (ops:=ops) (k1:=k) (k2:=q) (by omega) h2 with ⟨h3,h4⟩ | ⟨_,h4⟩;all_goals grind
     show Zp ρ ((f ops.size).tmp t) _;rw [hst];exact I.done k x t hk hx (bC _ hil) hd
    .have hst:(f ops.size).tmp t=(f 0).tmp t:=g.slot_stays (AD _) (Ah _) fun q y _ h2 hy hyd=>hw ⟨_,y,hy,hyd⟩;show Zp ρ ((f ops.size).tmp t) _;rw [hst,g.f0];exact I.undone t fun i x hx _ hd=>hw ⟨i,x,hx,hd⟩
   .have hst:(f ops.size).tmp i=(f 0).tmp i:=g.slot_stays (AD _) (Ah _) fun q y _ h2 hy hyd=>by obtain ⟨o,ho,s⟩:=g.step' h2;rw [hy] at ho;obtain rfl:=Ab ho;exact absurd hi (Nat.not_le_of_lt (s.slot i hyd))
    show (f ops.size).tmp i=_;rw [hst,g.f0];exact hout i hi
  .obtain ⟨e1,e2⟩:=g.mem_stays I.ple (Ah _) fun k o h1 h2 ho=>by
    rcases CZ z o with h | h | h | h
    .exact .inl h
    .exact .inr h
    .have:=I.past k o h2 ho h;omega
    .have:=(I.chain k o h2 ho h).1 (bC _ (Fj h2));omega
   rw [e1,e2];exact I.rel
  .obtain ⟨e1,e2⟩:=g.mem_stays I.ple (Ah _) fun k o h1 h2 ho=>by
    rcases CZ z o with h | h | h | h
    .exact .inl h
    .exact .inr h
    .have:=I.past k o h2 ho h;omega
    .have:=(I.chain k o h2 ho h).1 (bC _ (Fj h2));omega
   rw [e1,e2];exact I.ev
 | succ fuel ih=>
  intro listed p ρ a w hsz hcnt I;refine ⟨fun hr=> ?_,fun i hi=> ?_⟩
  .exfalso;have: ∃i,i<ops.size/\listed.getD i false=false:=by
    have hpos:0<(List.range ops.size).countP (fun i=> !listed.getD i false):=(by omega);obtain ⟨i,hi,h⟩:=List.countP_pos_iff.1 hpos
    grind
   grind
  .obtain ⟨hun,o,ho,hafter⟩:=mem_ready.1 hi;have hil:i<ops.size:=(Al.1 ho).1;obtain ⟨k,hk,rfl⟩:=GQ hil;have hil2:BE ops k<listed.size:=by omega
   have hns:listed.getD (BE ops k) false=false:=by grind
   have aI:Bt (fun i=>listed.getD i false) o:=fun e he hb=>hafter e (Array.mem_toList_iff.1 he) hb;have hS: ∀j,(listed.setIfInBounds (BE ops k) true).getD j false=(listed.getD j false||j == BE ops k):=by
    intro j;by_cases hj:j=BE ops k
    .simp_all
    .have:(j == BE ops k)=false:=(by grind);simp [this,Array.getElem?_setIfInBounds_ne (Ne.symm hj)]
   have hcnt':(List.range ops.size).countP (fun i=> !(listed.setIfInBounds (BE ops k) true).getD i false)=fuel:=by
    have:=Vq (fun i=> !listed.getD i false) (fun i=> !(listed.setIfInBounds (BE ops k) true).getD i false) (BE ops k) ops.size (fun j hj=>by
     grind) (by grind) (by rw [hS];simp) hil
    omega
   have bY:(listed.setIfInBounds (BE ops k) true).size =ops.size:=by grind
   have bP:=I.closes ho aI hS;have undone: ∀{j:Nat},(listed.setIfInBounds (BE ops k) true).getD j false=false->listed.getD j false=false:=fun {j} h=>by
    grind
   have calms: ∀(k1 q:Nat) (o1 x:Oper),k1<q->q<p->q<ops.size->ops[BE ops k1]? =some o1->ops[BE ops q]? =some x->(listed.setIfInBounds (BE ops k) true).getD (BE ops k1) false=false->Xd z x->Wg z ops (BE ops k1) (BE ops q)=true->Fk z o.op=true:=fun k1 q o1 x c1 c2 c3 c4 c5 c6 c7 c8=>by
    have hq:=(I.chain q x c3 c5 c7).2 c2;have h8:=Ao.1 c8 (BE ops k) (At.2 hil);rw [ho] at h8;simp only [AR] at h8;rcases h8 with h8 | h8 | h8 | h8
    .exact h8
    .simp_all
    .have:=(g.chk.bits _ _ c5 _ h8).2 _ I.closed fun e he hb=>I.closed _ _ c5 hq e he hb
     grind
    .have:=(g.chk.bits _ _ ho _ h8).2 _ I.closed aI
     grind
   have notcalm: ∀{α:Prop},Zh z o.op≠ .pure ->Zh z o.op≠ .read ->Fk z o.op=true->α:=fun h1 h2 h=>by
    grind [Fk]
   obtain ⟨o',ho',s⟩:=g.step' hk;rw [ho] at ho';obtain rfl:=Ab ho';have hops:=I.operands g hk ho hns aI;have hguard: ∀d,Yi ops o=some d->Zp ρ ((f k).tmp d) (a.tmps.getD d undef):=fun d hd=>I.looks g hk ho hns aI (JZ hd);have hob:=g.ob (k+1) (by omega);have finish: ∀{q:Prop},(if Region.wanted o (yielded ops a.tmps) then o.wp P a w (wpAny P .any ops (CE D ρ0 cx st (f ops.size) w0) fuel (listed.setIfInBounds (BE ops k) true)) (CE D ρ0 cx st (f ops.size) w0) else wpAny P .any ops (CE D ρ0 cx st (f ops.size) w0) fuel (listed.setIfInBounds (BE ops k) true) (a.put o.dst undef) w)->
     wpOp P ops (CE D ρ0 cx st (f ops.size) w0) (BE ops k) (wpAny P .any ops (CE D ρ0 cx st (f ops.size) w0) fuel (listed.setIfInBounds (BE ops k) true)) a w:=by
    grind [wpOp]
   have calm:(Zh z o.op=.pure \/Zh z o.op=.read)->wpOp P ops (CE D ρ0 cx st (f ops.size) w0) (BE ops k) (wpAny P .any ops (CE D ρ0 cx st (f ops.size) w0) fuel (listed.setIfInBounds (BE ops k) true)) a w:=by
    intro hkd;obtain ⟨memC,hrelC,hagC⟩: ∃memC,BC ρ memC (f p).next w/\ ∀t y b ab,o.op=.load t y->B5 o.op (f k).eval =some b->Zb (f k).mem b=some ab->Zb memC b=some ab:=by
     by_cases hl: ∃t y b ab q x,o.op=.load t y/\B5 o.op (f k).eval =some b/\Zb (f k).mem b=some ab/\k<=q/\q<p/\ops[BE ops q]? =some x/\Xd z x/\Wg z ops (BE ops k) (BE ops q)=true/\B4 x.op (f q).eval (f q).mem =some b
     .obtain ⟨t,y,b,ab,q0,x0,hop,hrd,hm,l1,l2,l3,l4,l5,l6⟩:=hl;have cA:Zh z o.op=.read :=by rw [hop];rfl
      obtain ⟨_,b2⟩:=I.between g hk ho hns aI cA hrd;have hbn:b<(f k).next :=by
       rcases AF b (f k).next with h | h
       .exact h
       .rw [g.bd hbd (by omega) b h] at hm;cases hm
      have first: ∀n q x,q<=n->k<=q->q<p->ops[BE ops q]? =some x->Xd z x->Wg z ops (BE ops k) (BE ops q)=true->B4 x.op (f q).eval (f q).mem =some b->
        ∃q x,k<=q/\q<p/\ops[BE ops q]? =some x/\Xd z x/\Wg z ops (BE ops k) (BE ops q)=true/\B4 x.op (f q).eval (f q).mem =some b/\ ∀q' x',k<=q'->q'<q->ops[BE ops q']? =some x'-> ¬(Xd z x'/\Wg z ops (BE ops k) (BE ops q')=true/\B4 x'.op (f q').eval (f q').mem =some b):=by
       intro n
       induction n with
       | zero=>grind
       | succ n ih=>
        intro q x h0 h1 h2 h3 h4 h5 h6;by_cases he: ∃q' x',k<=q'/\q'<q/\ops[BE ops q']? =some x'/\Xd z x'/\Wg z ops (BE ops k) (BE ops q')=true/\B4 x'.op (f q').eval (f q').mem =some b
        .obtain ⟨q',x',e1,e2,e3,e4,e5,e6⟩:=he;exact ih q' x' (by omega) e1 (by omega) e3 e4 e5 e6
        .exact ⟨q,x,h1,h2,h3,h4,h5,h6,fun q' x' e1 e2 e3 e4=>he ⟨q',x',e1,e2,e3,e4⟩⟩
      obtain ⟨q,x,h1,h2,h3,h4,h5,h6,h7⟩:=first q0 q0 x0 (Ah _) l1 l2 l3 l4 l5 l6
      have hple:=I.ple;have hne:k≠q:=fun e=>by
       rw [<-e,ho] at h3;obtain rfl:=Ab h3;rcases h4 with h | h <;> rw [cA] at h <;> cases h
      have hst:=g.blk_stays (x:=b) (a:=k) (b:=q) h1 (by omega) hbn fun q' x' e1 e2 e3=>by
       rcases b2 q' x' e1 (by omega) e3 with d | d | d | d | d | d;all_goals grind
      refine ⟨_,I.late k q o x b ab (by omega) h2 (by omega) ho h3 hns h4 h5 h6 (by grind),fun t' y' b' ab' hop' hrd' hm'=> ?_⟩
      grind [Zq]
     .refine ⟨(f p).mem,I.rel,fun t y b ab hop hrd hm=> ?_⟩;have cA:Zh z o.op=.read :=by rw [hop];rfl
      obtain ⟨b1,b2⟩:=I.between g hk ho hns aI cA hrd;have b2: ∀q x,k<=q->q<p->ops[BE ops q]? =some x->C0 z x\/Zh z x.op=.read \/(Zh z x.op=.call /\Vi ops (BE ops q)=true/\B6 Sp x.op (f q).eval ≠some b)\/(Zh z x.op=.chain /\BZ x.op (f q).eval ≠some b)\/Jv z x:=fun q x e1 e2 e3=>by
       rcases b2 q x e1 e2 e3 with d | d | d | d | d | d;all_goals grind
      have hρ: ∃l,ρ b=some l:=by
       have:=hops y (by rw [hop];simp [Op.operands]);rw [hop] at hrd;simp only [B5] at hrd;generalize a.eval y=uy at this;split at hrd
       .rename_i hy;rw [hy] at this;obtain rfl:=Ab hrd;cases this with
        | ptr _ _ l h=>grind
       .rename_i hy;rw [hy] at this;obtain rfl:=Ab hrd;cases this with
        | epa _ _ _ _ l h=>grind
       .cases hrd
      obtain ⟨l,hl⟩:=hρ;rcases Nat.le_total p k with hpk | hpk
      .have:=g.blk_stays (x:=b) hpk (by omega) (I.rel.dom b l hl) b1
       grind
      .have hbn:b<(f k).next :=by
        rcases AF b (f k).next with h | h
        .exact h
        .rw [g.bd hbd (by omega) b h] at hm;cases hm
       have:=g.blk_stays (x:=b) hpk I.ple hbn b2
       grind
    refine finish (q:=True) (s.calm hob hkd ρ a w (f k).eval memC (f p).next I.tsz (fun _ _=>rfl) hguard hops hrelC hagC _ _ fun u aU=> ?_)
    .obtain ⟨d1,d2⟩:=I.slots g hk ho hns (BB.le_refl ρ) aU hS;refine ih _ p ρ _ w bY hcnt' ⟨bP,by rw [Act.put_defers'];exact I.defers,by cases h:o.dst <;> simp [Act.put,I.tsz],d1,d2,I.ple,I.past,fun q x hq hx hc=> ?_,I.rel,I.ev,fun k1 q o1 x b ab c1 c2 c3 c4 c5 c6=>I.late k1 q o1 x b ab c1 c2 c3 c4 c5 (undone c6),fun q x hq hx hnw hs=> ?_⟩
     .have hne:BE ops q≠BE ops k:=fun e=>by
       rw [e,ho] at hx;obtain rfl:=Ab hx;rcases hc with h | h <;> rcases hkd with h' | h' <;> rw [h] at h' <;> cases h'
      rw [hS]
      simpa [hne] using I.chain q x hq hx hc
     .rw [hS] at hs;simp only [AW] at hs;exact I.allocs q x hq hx hnw hs.1
   rcases CZ z o with (hkd | hkd) | hkd | hkd | hkd
   .grind
   ·-- a slice that is written out, as data
    refine finish (q:=True) (s.lit hob hkd ρ a w (f k).eval (f p).mem (f p).next I.tsz (fun _ _=>rfl) hguard hops I.rel _ _ fun ρ' u w' aU aT aS hev=> ?_);obtain ⟨d1,d2⟩:=I.slots g hk ho hns (hev cx.floor (f p).mem).ext aU hS;refine ih _ p ρ' _ w' bY hcnt' ⟨bP,by rw [Act.put_defers'];exact I.defers,by cases h:o.dst <;> simp [Act.put,I.tsz],d1,d2,I.ple,I.past,fun q x hq hx hc=> ?_,aT,I.ev.trans (hev _ _),fun k1 q o1 x b ab c1 c2 c3 c4 c5 c6 c7 c8=>notcalm (by grind) (by grind) (calms k1 q o1 x c1 c2 c3 c4 c5 c6 c7 c8),fun q x hq hx hnw hs=> ?_⟩
    .have hne:BE ops q≠BE ops k:=fun e=>by
      rw [e,ho] at hx;obtain rfl:=Ab hx;rcases hc with h | h <;> rw [h] at hkd <;> cases hkd
     rw [hS]
     simpa [hne] using I.chain q x hq hx hc
    .rw [hS] at hs;simp only [AW] at hs;obtain ⟨m1,m2,m3,m4⟩:=I.allocs q x hq hx hnw hs.1
     grind
   .grind
   ·-- a block is made
    have hgn:=g.chk.guard _ o ho hkd;obtain ⟨cells,ty,hm1,hn1,cB⟩:=s.fresh hob hkd hgn;obtain ⟨l1,l2,l3,l4⟩:=I.allocs k o hk ho hkd hns;rw [hm1,Zq] at l4;obtain ⟨u,vs,el,hel,hvs,aB,aU⟩:=cB ρ a w (f k).eval (fun _ _=>rfl) hops;have aT:=I.rel.birth l2 l3 l4 el hvs hel;refine finish (q:=True) ?_;rw [Ap (by unfold Region.wanted;rw [hgn])];unfold Oper.wp;rw [aB];have hle:ρ.le (Yq ρ (f k).next ⟨w.heap.size,0,cells.length,vs.size⟩):=Xb l3;obtain ⟨d1,d2⟩:=I.slots g hk ho hns hle (u:=u) (fun d hd=>aU _ (by simp [Yq]) d hd) hS;have ev':Ev ρ0 (Yq ρ (f k).next ⟨w.heap.size,0,cells.length,vs.size⟩) cx.floor st.mem st.next (f p).mem (f p).next w0 {w with heap:=w.heap.push (.cells vs el)}:=by
     have e:=I.ev;refine ⟨BB.le_trans e.ext hle,fun b hb=> ?_,e.nxt,e.unborn,fun q ob hq hf=> ?_,fun b l hb hl=> ?_,?_,e.os,e.tape,e.output,e.still⟩
     .rw [<-e.new b hb];rw [Yb,Aj (by omega)]
     .have:=e.frame q ob hq hf
      grind
     .rw [Yb] at hl;by_cases hbk:b=(f k).next
      .rw [Ap hbk] at hl;obtain rfl:=Ab hl;exact .inl e.size
      .rw [Aj hbk] at hl;exact e.fresh b l hb hl
     .have:=e.size;simp;omega
    refine ih _ p _ _ _ bY hcnt' ⟨bP,by rw [Act.put_defers'];exact I.defers,by cases h:o.dst <;> simp [Act.put,I.tsz],d1,d2,I.ple,I.past,fun q x hq hx hc=> ?_,aT,ev',fun k1 q o1 x b ab c1 c2 c3 c4 c5 c6 c7 c8=>notcalm (by rcases hkd with h | h <;> rw [h] <;> exact fun h=>by cases h) (by rcases hkd with h | h <;> rw [h] <;> exact fun h=>by cases h) (calms k1 q o1 x c1 c2 c3 c4 c5 c6 c7 c8),fun q x hq hx hnw hs=> ?_⟩
    .have hne:BE ops q≠BE ops k:=fun e=>by
      rw [e,ho] at hx;obtain rfl:=Ab hx;rcases hc with h | h <;> rcases hkd with h' | h' <;> rw [h] at h' <;> cases h'
     rw [hS]
     simpa [hne] using I.chain q x hq hx hc
    .rw [hS] at hs;simp only [AW] at hs;obtain ⟨m1,m2,m3,m4⟩:=I.allocs q x hq hx hnw hs.1;refine ⟨m1,m2,?_,m4⟩;have hne:(f q).next ≠(f k).next :=by
      have hqk:q≠k:=fun e=>by grind
      have up: ∀q x,q<ops.size->ops[BE ops q]? =some x->Jv z x->(f (q+1)).next =(f q).next +1:=by intro q x hq hx hn;obtain ⟨x',hx',s'⟩:=g.step' hq;rw [hx] at hx';obtain rfl:=Ab hx';obtain ⟨_,_,_,h6,_⟩:=s'.fresh (g.ob _ (by omega)) hn (g.chk.guard _ x hx hn);exact h6
      rcases AK q k with h | h | h
      .have h1:=up q x hq hx hnw;have h2:=g.next_le (a:=q+1) (b:=k) (by omega) (by omega);omega
      .grind
      .have h1:=up k o hk ho hkd;have h2:=g.next_le (a:=k+1) (b:=q) (by omega) (by omega);omega
     grind [Yb]
   ·-- the next one that may write
    obtain ⟨hpk,hch⟩:=I.next_chain g hk ho hns aI hkd;obtain ⟨e1,e2⟩:=g.mem_stays hpk (by omega) fun q x h1 h2 hx=>by
     rcases CZ z x with h | h | h | h
     .exact .inl h
     .exact .inr h
     .have:=I.past q x (by omega) hx h;omega
     .have:=(I.chain q x (by omega) hx h).1 ((hch q x (by omega) hx h).2 h2);omega
    have aA:BC ρ (f k).mem (f k).next w:=by rw [e1,e2];exact I.rel
    refine finish (q:=True) (s.does hob hkd ρ a w (f k).eval I.tsz (fun _ _=>rfl) hguard hops aA _ _ fun ρ' u w' aU aT hev hlate=> ?_);obtain ⟨d1,d2⟩:=I.slots g hk ho hns hev.ext aU hS;have hev0:=hev;rw [e1,e2] at hev;refine ih _ (k+1) ρ' _ w' bY hcnt' ⟨bP,by rw [Act.put_defers'];exact I.defers,by cases h:o.dst <;> simp [Act.put,I.tsz],d1,d2,by omega,fun q x hq hx hc=>by have:=I.past q x hq hx hc;omega,fun q x hq hx hc=> ?_,aT,I.ev.trans hev,fun k1 q o1 x b ab c1 c2 c3 c4 c5 c6 c7 c8 c9 c10=> ?late,fun q x hq hx hnw hs=> ?_⟩
    case late=>
     by_cases hqk:q=k
     .subst hqk;rw [ho] at c5;obtain rfl:=Ab c5;exact I7 aA aT hev0 c10 fun l hl=>hlate b ab l c9 c10 hl
     .have hqs:=(hch q x c3 c5 c7).2 (by omega);have hqp:=(I.chain q x c3 c5 c7).1 hqs;exact notcalm (by rcases hkd with h | h <;> rw [h] <;> exact fun h=>by cases h) (by rcases hkd with h | h <;> rw [h] <;> exact fun h=>by cases h) (calms k1 q o1 x c1 hqp c3 c4 c5 c6 c7 c8)
    .rw [hS];by_cases hqk:q=k
     .grind
     .have hne:BE ops q≠BE ops k:=fun e=>by
       rcases AF q k with h | h
       .grind
       .rcases Wi (ops:=ops) (k1:=k) (k2:=q) (by omega) hq with ⟨h3,h4⟩ | ⟨_,h4⟩;all_goals grind
      have:=hch q x hq hx hc;simp only [beq_eq_false_iff_ne.2 hne,Bool.or_false];rw [this];omega
    .rw [hS] at hs;simp only [AW] at hs;obtain ⟨m1,m2,m3,m4⟩:=I.allocs q x hq hx hnw hs.1;obtain ⟨x',hx',s'⟩:=g.step' hq;rw [hx] at hx';obtain rfl:=Ab hx';obtain ⟨cells,ty,hm1,_,_⟩:=s'.fresh (g.ob _ (by omega)) hnw (g.chk.guard _ x hx hnw);have e0:Zb (f (q+1)).mem (f q).next =some ⟨cells,ty,none⟩:=by rw [hm1,Zq]
     rw [e0] at m4;refine ⟨m1,Av m2 hev.nxt,by rw [hev.new _ m2];exact m3,by rw [e0];exact hev.unborn _ m2 m3 _ _ m4⟩
theorem IG (g:BS Sp z P ops cx st f) {ρ:BB} {a:Act} {w:World} (hd:a.defers=D) (aD:Yv ρ st.env cx.n a.tmps) (aA:BC ρ st.mem st.next w):
  ∃p,Bc z P D ops cx st f ρ w (fun i=>(Array.replicate ops.size false).getD i false) p ρ a w:=by
 have hf: ∀i,(Array.replicate ops.size false).getD i false=false:=fun i=>by
  by_cases h:i<ops.size;all_goals simp_all
 have hA: ∃p,p<=ops.size/\(∀k o,k<ops.size->ops[BE ops k]? =some o->Jv z o->k<p)/\(p=0\/ ∃o,ops[BE ops (p - 1)]? =some o/\Jv z o):=by
  have: ∀n,n<=ops.size-> ∃p,p<=n/\(∀k o,k<n->ops[BE ops k]? =some o->Jv z o->k<p)/\(p=0\/ ∃o,ops[BE ops (p - 1)]? =some o/\Jv z o):=by
   intro n
   induction n with
   | zero=>grind
   | succ n ih=>
    intro hn;obtain ⟨p,hp,hk,hlast⟩:=ih (by omega);have hlt:=Fj (ops:=ops) (k:=n) (by omega);have hx:ops[BE ops n]? =some ops[BE ops n]:=(by simp [hlt]);by_cases e:Jv z ops[BE ops n]
    .exact ⟨n+1,Ah _,fun k o h _ _=>h,.inr ⟨_,hx,e⟩⟩
    .refine ⟨p,by omega,fun k o h ho hnw=> ?_,hlast⟩;by_cases hkn:k=n
     .grind
     .exact hk k o (by omega) ho hnw
  simp_all
 obtain ⟨p,hp,hpk,hlast⟩:=hA;have noch: ∀k o,k<p->ops[BE ops k]? =some o-> ¬Xd z o:=by
  intro k o hk ho hc;rcases hlast with h0 | ⟨x,hx,hnw⟩
  .omega
  .by_cases hkp:k=p - 1
   .rw [<-hkp,ho] at hx;obtain rfl:=Ab hx;rcases hc with h | h <;> rcases hnw with h' | h' <;> rw [h] at h' <;> cases h'
   .have nal:isAlloc ops (BE ops k)=false:=by
     cases e:isAlloc ops (BE ops k) with
     | false=>rfl
     | true=>
      have:=(Yr (z:=z) ho).1 e;rcases hc with h | h <;> rw [h] at this <;> cases this
    rcases Wi (ops:=ops) (k1:=k) (k2:=p - 1) (by omega) (by omega) with ⟨h3,_⟩ | ⟨h3,h4⟩
    .grind
    .rw [nal] at h3;rcases hnw with hnw | hnw
     .grind [Yr]
     .exact g.chk.birth _ _ _ _ h4 ho hx hnw hc
 have stepAt: ∀k,k<p->((f (k+1)).mem =(f k).mem /\(f (k+1)).next =(f k).next)\/ ∃cells ty,(f (k+1)).mem =Zt (f k).mem (f k).next (some ⟨cells,ty,none⟩)/\(f (k+1)).next =(f k).next +1:=by
  intro k hk;obtain ⟨o,ho,s⟩:=g.step' (k:=k) (by omega);rcases CZ z o with h | h | h | h
  .exact .inl (s.stay (by rcases h with h | h <;> simp [h]))
  .exact .inl (s.stay (.inr (.inl h)))
  .obtain ⟨cells,ty,h1,h2,_⟩:=s.fresh (g.ob _ (by omega)) h (g.chk.guard _ o ho h)
   grind
  grind
 have start: ∀k,k<=p->BC ρ (f k).mem (f k).next w/\Ev ρ ρ cx.floor st.mem st.next (f k).mem (f k).next w w:=by
  intro k
  induction k with
  | zero=>intro _;rw [g.f0];exact ⟨aA,Ev.refl _ _ _ _ _ aA.dom⟩
  | succ k ih=>
   intro hk;obtain ⟨hr,he⟩:=ih (by omega);rcases stepAt k (by omega) with ⟨h3,h4⟩ | ⟨cells,ty,h3,h4⟩
   .grind
   .rw [h3,h4];refine ⟨hr.unborn _,he.trans ⟨BB.le_refl _,fun _ _=>rfl,A9 _,fun b hb _ cs ty hm=>by grind [Zx],fun _ _ h _=>h,fun b l hb hl=>by have:=hr.dom b l hl;omega,Ah _,rfl,rfl,rfl,fun _ _=>rfl⟩⟩
 have later: ∀k k',(f (k+1)).next =(f k).next +1->k<k'->k'<=p->(f k).next <(f k').next /\Zb (f k').mem (f k).next =Zb (f (k+1)).mem (f k).next :=by
  intro k k' hk1 hk
  induction k' with
  | zero=>omega
  | succ k' ih=>
   intro hk';by_cases e:k=k'
   .grind
   .obtain ⟨h1,h2⟩:=ih (by omega) (by omega);rcases stepAt k' (by omega) with ⟨h3,h4⟩ | ⟨cells,ty,h3,h4⟩;all_goals grind [Zx]
 obtain ⟨hrp,hep⟩:=start p (Ah _);refine ⟨p,?_,hd,aD.size,?_,?_,hp,hpk,?_,hrp,hep,fun k q o x b ab _ hqp _ _ hx _ hc=>absurd hc (noch q x hqp hx),?_⟩
 .intro j o _ hs;grind
 .grind
 .intro t _;exact aD.get t
 .grind
 .intro k o hk ho hnw _;have hkp:k<p:=hpk k o hk ho hnw;obtain ⟨o',ho',s⟩:=g.step' (k:=k) hk;rw [ho] at ho';obtain rfl:=Ab ho';obtain ⟨cells,ty,h3,h4,_⟩:=s.fresh (g.ob _ (by omega)) hnw (g.chk.guard _ o ho hnw);obtain ⟨h5,h6⟩:=later k p h4 hkp (Ah _);have hge:st.next<=(f k).next :=by have:=g.next_le (a:=0) (b:=k) (AD _) (by omega);rw [g.f0] at this;exact this
  refine ⟨hge,h5,?_,h6⟩;cases e:ρ (f k).next with
  | none=>rfl
  | some l=>have:=aA.dom _ l e;omega
theorem Jz {S:BD} {R:BF} (hN:Va P) (hS:Ys P S) (hRI:Bb R) (hR:Bp P R) {st':St} (hcx:cx.floor<=st.next) (aW:Qr z ops=true)
  (h:Je z P S R ops cx (Wk ops) [] st=some st') (ho:st'.ob=true) {ρ:BB} {a:Act} {w:World} (hd:a.defers=D) (aD:Yv ρ st.env cx.n a.tmps) (aA:BC ρ st.mem st.next w):
  wpAny P .any ops (CE D ρ cx st st' w) ops.size (Array.replicate ops.size false) a w:=by
 obtain ⟨f,f0,fn,fs,_,fp⟩:=Vx (Wk ops) [] st st' h;have aC:(Wk ops).length =ops.size:=by simp [Wk,Zo]
 rw [aC] at fn;have bE: ∀(k:Nat) (hk:k<(Zm ops).length),cx.floor<=(f k).next ->Fh S z P ops cx (Vi ops (Zm ops)[k],ops.getD (Zm ops)[k] default) (f k) (f (k+1)):=by
  grind [Wk,Ib]
 have hnx: ∀k,k<=ops.size->cx.floor<=(f k).next :=by
  intro k
  induction k with
  | zero=>grind
  | succ k ih=>intro hk;have hc:=ih (by omega);exact Ay hc (bE k (by rw [Zo];omega) hc).inv.nxt
 have hob: ∀k,k<=ops.size->(f (ops.size - k)).ob =true:=by
  intro k
  induction k with
  | zero=>grind
  | succ k ih=>
   intro hk;have hk':ops.size - (k+1)<(Zm ops).length :=by rw [Zo];omega
   have s:=bE _ hk' (hnx _ (by omega));refine s.inv.ob ?_
   grind
 have g:BS S z P ops cx st f:=⟨Ue aW,f0,hcx,fun k hk=>by
  have:=hob (ops.size - k) (by omega);rwa [show ops.size - (ops.size - k)=k by omega] at this,fun k hk=>bE k hk (hnx k (by rw [Zo] at hk;omega)),fun q k hq hk=>by
   have:=fp q k hq (by grind [Zo]);simp_all [Wk]⟩
 obtain ⟨p,I⟩:=IG g hd aD aA;have:=KG g aD.out aA.bd ops.size (Array.replicate ops.size false) p ρ a w (by simp) (by
  rw [List.countP_eq_length.2];all_goals simp_all) I
 grind
theorem Ha {S:BD} {R:BF} (hRI:Bb R): ∀(l:List (Bool×Oper)) (st st':St),F6 P S R ops cx l st=some st'->Zf cx.floor st st'
 | [],st,st',h=>by
  have h:some st=some st':=h
  grind [Zf.refl]
 | x::l,st,st',h=>by
  rw [Qy,A1] at h;obtain ⟨st1,h1,h2⟩:=h;refine Zf.trans ?_ (Ha hRI l st1 st' h2);unfold Bv at h1;split at h1
  .cases h1
  .rename_i st2 hw;obtain ⟨w1,w2,w3⟩:=Yz hw;refine (Zf.same w1 w2 fun h=>(w3 h).1).trans ?_;unfold Qw at h1;split at h1
   .split at h1
    .rename_i st3 ho;obtain ⟨_,e2,e3,e4⟩:=Zs ho;obtain ⟨p1,p2,p3,_⟩:=Yx h1;exact (Zf.same e2 e3 fun h=>(e4 h).2).trans (Zf.same p1 p2 fun h=>by rw [<-p3];exact h)
    .cases h1
   .split at h1
    .rename_i v st3 he;obtain ⟨p1,p2,p3,_⟩:=Yx h1;exact (Hj hRI he).1.trans (Zf.same p1 p2 fun h=>by rw [<-p3];exact h)
    .cases h1
  .rename_i st2 hw;obtain ⟨w1,w2,w3⟩:=Yz hw;obtain ⟨p1,p2,p3,_⟩:=Yx h1;exact (Zf.same w1 w2 fun h=>(w3 h).1).trans (Zf.same p1 p2 fun h=>by rw [<-p3];exact h)
theorem IQ {S:BD} {R:BF} (hRI:Bb R) {x:Bool×Oper} {st st':St} (h:C4 z P S R ops cx x st=some st'):Zf cx.floor st st':=by
 unfold C4 at h;cases hz:CW z x.2.op with
 | false=>
  rw [hz,Ax] at h;cases hz2:isBirth z x.2.op with
  | true=>
   rw [hz2,Aq] at h;split at h
   .cases h
   .rename_i st2 hw;obtain ⟨w1,w2,w3⟩:=Yz hw;unfold GJ at h;split at h
    .split at h
     .obtain ⟨p1,p2,p3,_⟩:=Yx h;exact ((Zf.same w1 w2 fun h=>(w3 h).1).trans (Zf.new _ _ _)).trans (Zf.same p1 p2 fun h=>by grind)
     .cases h
    .cases h
   .rename_i st2 hw;obtain ⟨w1,w2,w3⟩:=Yz hw
    grind [Yx,Zf.same]
  | false=>rw [hz2,Ax] at h;exact Ha hRI [x] st st' (by rw [Qy,h];rfl)
 | true=>
  rw [hz,Aq] at h;split at h
  .cases h
  .rename_i st2 hw;obtain ⟨w1,w2,w3⟩:=Yz hw
   grind [GA,Yx,Zf.same]
  .rename_i st2 hw;obtain ⟨w1,w2,w3⟩:=Yz hw
   grind [Yx,Zf.same]
theorem Qx {S:BD} {R:BF} (hRI:Bb R) (l:List (Nat×Bool×Oper)) (acc:List BW) (st st':St) (h:Je z P S R ops cx l acc st=some st'):Zf cx.floor st st':=by
 obtain ⟨f,f0,fn,fs,_,_⟩:=Vx l acc st st' h;have: ∀k,k<=l.length->Zf cx.floor st (f k):=by
  intro k
  induction k with
  | zero=>intro _;rw [f0];exact Zf.refl _ _
  | succ k ih=>
   intro hk;refine (ih (by omega)).trans ?_
   grind [IQ]
 grind
end
section
variable {P:Program}
theorem HT {H:B8} {w:World} (hH: ∀k o,H k=some o->w.heap[k]? =some o) (hG:C9 H):BC (Uc H) .leaf 0 w:=
 ⟨(fun b l h=>by cases h),(fun b b' l l' h=>by cases h),(fun b l ab h=>by cases h),hH,(fun b l h=>by cases h),(fun b l h=>by cases h),(fun b _=>rfl),(fun j l h=>by cases h),hG⟩
structure Hq (H:B8) (w:World) (ρ:BB) (v:BA) (u:Value) (w':World):Prop where
 val:Zp ρ v u
 le: ∀k o,H k=some o->ρ.fz k=some o
 old: ∀k o,ρ.fz k=some o->w'.heap[k]? =some o
 same: ∀k,k<w.heap.size->ρ.fz k=H k
 below:RowKit.Below w.heap.size w w'
theorem Ce {H:B8} {w w':World} {ρ:BB} {v:BA} {u:Value} {mem:BI} {next floor:Nat} (hv:Zp ρ v u) (hr:BC ρ mem next w') (hev:Ev (Uc H) ρ floor .leaf 0 mem next w w'):Hq H w ρ v u w':=
 ⟨hv,hev.ext.2.1,hr.old,hev.still,hev.os,hev.tape,hev.output,hev.size,fun k hk=>by
  have:w.heap[k]? =some w.heap[k]:=by simp [hk]
  rw [this];exact hev.frame k _ this fun b l hl=>by cases hl⟩
def CB :BD:=fun _=>none
theorem Zw :Ys P CB:=fun f F h=>by cases h
end
end Go.Am
end
