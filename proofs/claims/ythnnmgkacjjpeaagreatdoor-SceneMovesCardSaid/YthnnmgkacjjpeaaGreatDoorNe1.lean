/- A part of a proof: several texts in one. -/
import Derived.Test.YthnnmgkacjjpeaaGreatDoorNe0
import Derived.IntWalk
set_option maxRecDepth 1000000
set_option maxHeartbeats 8000000
set_option linter.unusedVariables false
set_option linter.unusedSimpArgs false
noncomputable section
namespace Go.Am
open IntKind (wrap)
section
variable {P:Program} {ρ:CF}
theorem z3f {t u e:TypeId} {ut:TypeDesc} {i:TypeInfo} {type:TypeId} (hu:P.underlying t=some (.slice e)) (hut:P.underlying u=some ut) (hni: ∀k,ut≠ .int k) (hi:P.info? e=some i) {ts:List TypeId} {base:Option Addr} {len n c:Nat} {x:Value} {vs:Array Value} {xs:List Value} {w:World}
  (eK:(Builtin.lenOf x).run P w=.ok n w) (fD:(Builtin.firstCells i.size n x).run P w=.ok vs w) (eR:len+n<=c) {w':World}
  (hst: ∀a,base=some a->(storeCells (a.add (len*i.size)) vs.toList).run P w=.ok () w') (hno:base=none->w'=w):
  (Builtin.append_ (t::u::ts).toArray type ((.slice base len c)::x::xs).toArray).run P w=.ok (.slice base (len+n) c) w':=by
 cases base with
 | none=>obtain rfl:=hno rfl;simp [Builtin.append_,run_underlying hu,run_underlying hut,Yz hi,eK,fD,eR]
 | some a=>have:=hst a rfl;simp [Builtin.append_,run_underlying hu,run_underlying hut,Yz hi,eK,fD,eR,this]
theorem z1v {t u e:TypeId} {ut:TypeDesc} {i:TypeInfo} {type:TypeId} (hu:P.underlying t=some (.slice e)) (hut:P.underlying u=some ut) (hni: ∀k,ut≠ .int k) (hi:P.info? e=some i) {z:Value} (hz:i.zero=some z) {ts:List TypeId} {base:Option Addr} {len n c:Nat} {x:Value} {vs old:Array Value} {xs:List Value} {w:World}
  (eK:(Builtin.lenOf x).run P w=.ok n w) (fD:(Builtin.firstCells i.size n x).run P w.drew=.ok vs w.drew) (hold:(Builtin.firstCells i.size len (.slice base len c)).run P w.drew=.ok old w.drew)
  (eR:c<len+n) (fL:(len+n+1)*(i.bytes+1)<=1099511627776):
  ∃newCap,len+n<=newCap/\ ∃rest:Array Value,rest.size=(newCap - (len+n))*z.cells.size/\
  (Builtin.append_ (t::u::ts).toArray type ((.slice base len c)::x::xs).toArray).run P w=.ok (.slice (some ⟨w.heap.size,0,none⟩) (len+n) newCap) (w.drew.alloc (.cells (old++vs++rest) e)):=by
 have hmul:len+n+1<=(len+n+1)*(i.bytes+1):=Nat.le_mul_of_pos_right _ (by omega);have hr:=v4y fL eR;have hr': ¬2 ^ 48<Builtin.nextslicecap (len+n) c*i.bytes:=hr;have hr'': ¬281474976710656<Builtin.nextslicecap (len+n) c*i.bytes:=hr;have h1: ¬len+n<=c:=by omega
 have h2: ¬(9223372036854775807<(len:Int)+(n:Int)):=by omega
 have hq:(Question.appendCap (len+n) c e).forced =false:=rfl;have hzero: ∀w,(zeroValue e).run P w=.ok z w:=fun w=>by simp [zeroValue,run_typeInfo w hi,hz]
 refine ⟨(Question.appendCap (len+n) c e).cut (w.tape w.drawn (Question.appendCap (len+n) c e)),by simp only [Question.cut];omega,Builtin.zeroCells z.cells ((Question.appendCap (len+n) c e).cut (w.tape w.drawn (Question.appendCap (len+n) c e)) - (len+n)),by simp [Builtin.zeroCells],?_⟩;have hty: ∀w,(typeInfo e).run P w=.ok i w:=fun w=>run_typeInfo w hi;simp [Builtin.append_,run_underlying hu,run_underlying hut,Yz hi,eK,h1,h2,hty,hr'',hq,fD,hold,hzero,newRow]
theorem Uy.append {a b:zy} {us vs:Array Value} (h:Uy ρ a us) (k:Uy ρ b vs):Uy ρ (a++b) (us++vs):=by
 refine ⟨by simp [h.1,k.1],fun i h1 h2=> ?_⟩;by_cases hi:i<a.length
 .rw [BK hi,Array.getElem_append_left (by rw [<-h.1];exact hi)];exact h.2 i hi (by rw [<-h.1];exact hi)
 .rw [BH (by omega),Array.getElem_append_right (by rw [<-h.1];omega)];have e:=h.1;simp only [e];exact k.2 (i - us.size) (by grind) (by grind)
theorem WU {st:St} {w:World} (h:CH ρ st.mem st.next w) (floor:Nat) {cs:zy} {vs:Array Value} (hr:Uy ρ cs vs) (rest:Array Value) (ty el:TypeId) (v:CA) (u:Value)
  (fB: ∀ρ',ρ' st.next=some ⟨w.heap.size,0,cs.length,vs.size+rest.size⟩->VRel ρ' v u) (hel:el=ty:=by rfl):
  Dg ρ floor st (Cy st cs ty) v w (Vn ρ st.next ⟨w.heap.size,0,cs.length,vs.size+rest.size⟩) u (w.drew.alloc (.cells (vs++rest) el)):=by
 have hd:CH ρ st.mem st.next w.drew:=h.drawn _
 have:=QZ hd floor cs ty (vs++rest) el (by rw [hr.1];simp) (fun i h1 h2=>by
  rw [Array.getElem_append_left (by rw [<-hr.1];exact h1)];exact hr.2 i h1 (by rw [<-hr.1];exact h1)) v u (fun ρ' hρ'=>fB ρ' (by simp_all)) hel
 simp only [Array.size_append] at this;exact ⟨this.val,this.rel,this.ev.drawn⟩
theorem Qi {α:Type} {c:Bool} {x:Option α} {y:α} (h:(bif c then x else none)=some y):c=true/\x=some y:=by grind
structure ZK (P:Program) (ρ:CF) (t u e:TypeId) (i:TypeInfo) (z:Value) (ux:Value) (n:Nat) (new:zy) (vs:Array Value) (w:World):Prop where
 rel:Uy ρ new vs
 hin: ∀{type:TypeId} {ts:List TypeId} {base:Option Addr} {len c:Nat} {xs:List Value},(n=0\/(n+1)*(i.bytes+1)<=1099511627776)->len+n<=c-> ∀{w':World},(∀a,base=some a->(storeCells (a.add (len*i.size)) vs.toList).run P w=.ok () w')->(base=none->w'=w)->
  (Builtin.append_ (t::u::ts).toArray type ((.slice base len c)::ux::xs).toArray).run P w=.ok (.slice base (len+n) c) w'
 hnew: ∀{type:TypeId} {ts:List TypeId} {base:Option Addr} {len c:Nat} {xs:List Value} {old:Array Value},(Builtin.firstCells i.size len (.slice base len c)).run P w.drew=.ok old w.drew->c<len+n->(len+n+1)*(i.bytes+1)<=1099511627776->
  ∃newCap,len+n<=newCap/\ ∃rest:Array Value,rest.size=(newCap - (len+n))*z.cells.size/\
   (Builtin.append_ (t::u::ts).toArray type ((.slice base len c)::ux::xs).toArray).run P w=.ok (.slice (some ⟨w.heap.size,0,none⟩) (len+n) newCap) (w.drew.alloc (.cells (old++vs++rest) e))
theorem x0k {n:Int} {bytes:Nat} (h0:0<=n) (h:n.toNat=0\/(n.toNat+1)*(bytes+1)<=1099511627776):IntKind.i64.wrap n=n/\n*(bytes:Int)<=281474976710656:=by
 grind [IntWalk.i64_in]
theorem Ku {mem:CI} {next:Nat} {w:World} (h:CH ρ mem next w) {t u e:TypeId} {ut:TypeDesc} {i:TypeInfo} {z:Value} {zero:zy} {x:CA} {ux:Value} {n:Nat} {new:zy} (hu:P.underlying t=some (.slice e)) (hut:P.underlying u=some ut) (hi:P.info? e=some i) (hz:i.zero=some z)
  (hzr:Uy ρ zero z.cells) (hzl:zero.length=i.size) (hc:Ju mem i.size zero ut x=some (n,new)) (hx:VRel ρ x ux) (hnl:new.length=n*i.size): ∃vs,ZK P ρ t u e i z ux n new vs w:=by
 unfold Ju at hc;split at hc
 .rename_i kt;split at hc
  .rename_i k m;obtain ⟨h0,hc⟩:=Qi hc;have h0:=Ay h0;simp only [Ae,Ad] at hc;obtain ⟨rfl,rfl⟩:=hc;cases hx;have hzs:z.cells.size=i.size:=by rw [<-hzr.1];exact hzl
   refine ⟨Builtin.zeroCells z.cells m.toNat,?_,?_,?_⟩
   .exact RM hzr m.toNat (m.toNat*z.cells.size) (by rw [hzr.1])
   .intro type ts base len c xs hr eR w' hst hno;obtain ⟨hw,hb⟩:=x0k h0 hr;have hb': ¬281474976710656<m*(i.bytes:Int):=(by omega);have hlt: ¬m<0:=(by omega);have hzv: ∀w,(zeroValue e).run P w=.ok z w:=fun w=>by simp [zeroValue,run_typeInfo w hi,hz]
    have hty: ∀w,(typeInfo e).run P w=.ok i w:=fun w=>run_typeInfo w hi;by_cases hz0:m.toNat*i.size=0
    .have hze:Builtin.zeroCells z.cells m.toNat= #[]:=(by simp [Builtin.zeroCells,hzs,hz0]);rw [hze] at hst;cases base with
     | none=>obtain rfl:=hno rfl;simp [Builtin.append_,run_underlying hu,run_underlying hut,Yz hi,asInt,asIntOf,hw,hlt,hty,hb',eR,hz0]
     | some a=>have:=hst a rfl;simp only [] at this;simp [Builtin.append_,run_underlying hu,run_underlying hut,Yz hi,asInt,asIntOf,hw,hlt,hty,hb',eR,hz0,this]
    .cases base with
     | none=>obtain rfl:=hno rfl;simp [Builtin.append_,run_underlying hu,run_underlying hut,Yz hi,asInt,asIntOf,hw,hlt,hty,hb',eR,hz0,hzv]
     | some a=>have:=hst a rfl;simp [Builtin.append_,run_underlying hu,run_underlying hut,Yz hi,asInt,asIntOf,hw,hlt,hty,hb',eR,hz0,hzv,this]
   .intro type ts base len c xs old hold eR fL;have hr:m.toNat=0\/(m.toNat+1)*(i.bytes+1)<=1099511627776:=.inr (AI (AE _ (by omega)) fL);obtain ⟨hw,hb⟩:=x0k h0 hr;have hb': ¬281474976710656<m*(i.bytes:Int):=(by omega);have hlt: ¬m<0:=(by omega);have hmul:len+m.toNat+1<=(len+m.toNat+1)*(i.bytes+1):=Nat.le_mul_of_pos_right _ (by omega);have hr0:=v4y fL eR;have hr'': ¬281474976710656<Builtin.nextslicecap (len+m.toNat) c*i.bytes:=hr0;have h1: ¬len+m.toNat<=c:=(by omega);have h2: ¬(9223372036854775807<(len:Int)+(m.toNat:Int)):=(by omega);have h2': ¬(9223372036854775807<(len:Int)+max m 0):=(by omega);have hq:(Question.appendCap (len+m.toNat) c e).forced =false:=rfl;have hzv: ∀w,(zeroValue e).run P w=.ok z w:=fun w=>by simp [zeroValue,run_typeInfo w hi,hz]
    have hty: ∀w,(typeInfo e).run P w=.ok i w:=fun w=>run_typeInfo w hi;refine ⟨(Question.appendCap (len+m.toNat) c e).cut (w.tape w.drawn (Question.appendCap (len+m.toNat) c e)),by simp only [Question.cut];omega,Builtin.zeroCells z.cells ((Question.appendCap (len+m.toNat) c e).cut (w.tape w.drawn (Question.appendCap (len+m.toNat) c e)) - (len+m.toNat)),by simp [Builtin.zeroCells],?_⟩;by_cases hz0:m.toNat*i.size=0
    .have hze:Builtin.zeroCells z.cells m.toNat= #[]:=(by simp [Builtin.zeroCells,hzs,hz0]);simp [Builtin.append_,run_underlying hu,run_underlying hut,Yz hi,asInt,asIntOf,hw,hlt,hb',h1,h2,h2',hty,hr'',hq,hold,hzv,newRow,hz0,hze]
    .simp [Builtin.append_,run_underlying hu,run_underlying hut,Yz hi,asInt,asIntOf,hw,hlt,hb',h1,h2,h2',hty,hr'',hq,hold,hzv,newRow,hz0]
  .cases hc
 .rename_i hni';have hni: ∀k,ut≠ .int k:=fun k hk=>hni' k hk;obtain ⟨eK,fD⟩:=Vs (P:=P) h hc hx hnl;obtain ⟨vs,hvs,hfc⟩:=fD n (Aq _);rw [A6 (by omega)] at hvs;have gH:(Builtin.firstCells i.size n ux).run P w=.ok vs w:=hfc w.drawn;have hfc1:(Builtin.firstCells i.size n ux).run P w.drew=.ok vs w.drew:=hfc (w.drawn+1);exact ⟨vs,hvs,fun _ eR _ hst hno=>z3f hu hut hni hi (eK w) gH eR hst hno,fun hold eR fL=>z1v hu hut hni hi hz (eK w) hfc1 hold eR fL⟩
theorem x6f {w:World} {x:Obj} {n:Nat} {k:Nat} {o:Obj} (h:w.heap[k]? =some o):(World.alloc {w with drawn:=n} x).heap[k]? =some o:=by
 have:k<w.heap.size:=(AC.1 h).1;show (w.heap.push x)[k]? =some o
 grind
theorem x9g {w:World} {k:Nat} {cur:Array Value} {el:TypeId} {vs:List Value} {m:Nat} (hw:w.heap[k]? =some (.cells cur el (0,0))) (hm:m+vs.length<=cur.size):
  ∃cs1,(w.setRow k (cur.toList.take m++vs++cur.toList.drop (m+vs.length)).toArray).heap[k]? =some (.cells cs1 el (0,0))/\cs1.size=cur.size/\ ∀j,j<m->cs1[j]? =cur[j]? :=by
 have hc:cur.toList.length=cur.size:=Array.length_toList;refine ⟨_,setRow_heap w k cur _ el (0,0) hw,by simp;omega,fun j hj=> ?_⟩
 grind
def j9w (ρ:CF) (m:CI) (xs:zy) (w w':World):Prop:=
 (∀(b off len z b2 o2 n2:Nat) (c2:FQ) (r:zy) (blk:CG) (l:CZ),xs=.sl b off len (.un z)::.sl b2 o2 n2 c2::r->1<=n2->Yi m b=some blk->off+len*z=blk.cells.length->ρ b=some l->Wn ρ w' blk l)/\
 ∀r:zy,xs=.nils ::r-> ∀(k:Nat) (o:Obj),w.heap[k]? =some o->w'.heap[k]? =some o
theorem w1l {m:CI} {sz:Nat} {zero:zy} {ut:TypeDesc} {b o n2:Nat} {c:FQ} {n:Nat} {new:zy} (h:Ju m sz zero ut (.sl b o n2 c)=some (n,new)):n=n2:=by
 have key:Xq m sz (.sl b o n2 c)=some (n,new)->n=n2:=fun h=>by
  simp only [Xq] at h;cases hm:Yi m b with
  | none=>grind
  | some blk=>rw [hm] at h;obtain ⟨_,h⟩:=Mp h;simp_all
 cases ut <;> first | exact key h | (cases h;done)
theorem W5 {st st' :St} {w:World} (h:CH ρ st.mem st.next w) (floor:Nat) {ts:Array TypeId} {type:TypeId} {xs:zy} {us:Array Value} {v:CA} (ha:GI P floor st ts.toList xs=some (v,st')) (hx:Vf (VRel ρ) xs us.toList) (hty:tyOk P st.mem ts.toList xs=true):
  ∃ρ' u w',(Builtin.append_ ts type us).run P w=.ok u w'/\Dg ρ floor st st' v w ρ' u w'/\(st'.env=st.env/\st'.ob=st.ob)/\j9w ρ st.mem xs w w':=by
 obtain ⟨ts⟩:=ts;obtain ⟨us⟩:=us;simp only at ha hx;unfold GI at ha;split at ha
 .rename_i t tu tts s x txs;cases hx with
  | @cons _ su _ _ hs hx=>
   cases hx with
   | @cons _ ux _ uxs hx _=>
    split at ha
    .rename_i e ut hu hut;split at ha
     .rename_i i zero hi hz;split at ha
      .rename_i n new hcs;obtain ⟨i2,z,hi2,hz2,hzr,_⟩:=We (ρ:=ρ) hz;obtain rfl:i=i2:=by grind
       cases hc:(Nat.beq zero.length i.size&&Nat.beq new.length (n*i.size)&&Nat.ble 1 i.size&&new.all DH) with
       | false=>grind
       | true =>
        rw [hc,Ab] at ha;simp only [Ac] at hc;obtain ⟨⟨⟨hzl,hnl⟩,hsz⟩,hsc⟩:=hc;have hzl:=Ai hzl;have hnl:=Ai hnl;have hsz:=Ak hsz;have hzs:z.cells.size=i.size:=by rw [<-hzr.1];exact hzl
        obtain ⟨vs,hF⟩:=Ku (P:=P) h hu hut hi hz2 hzr hzl hcs hx hnl;have hvs:=hF.rel;have hvsz:vs.size=n*i.size:=by rw [<-hvs.1];exact hnl
        have fC:=VRel.cells_oneCell hvs hsc;split at ha
        ·-- nil
         cases hs;cases hn0:Nat.beq n 0 with
         | true=>rw [hn0,Ab] at ha;simp only [Ae,Ad] at ha;obtain ⟨rfl,rfl⟩:=ha;have hn0:=Ai hn0;subst hn0;have eO:=hF.hin (type:=type) (ts:=tts) (base:=none) (len:=0) (c:=0) (xs:=uxs) (.inl rfl) (Aq _) (w':=w) (fun a e=>by cases e) (fun _=>rfl);exact ⟨ρ,_,w,eO,⟨.nils,h,Ev.refl _ _ _ _ _ h.dom⟩,⟨rfl,rfl⟩,(fun _ _ _ _ _ _ _ _ _ _ _ e=>by cases e),fun _ _ _ _ h=>h⟩
         | false=>
          rw [hn0,Aa] at ha;cases hrm:Nat.ble ((n+1)*(i.bytes+1)) Vg with
          | false=>grind
          | true=>
           rw [hrm,Ab] at ha;simp only [Ae,Ad] at ha;obtain ⟨rfl,rfl⟩:=ha;have hrm:=Ak hrm;have hnpos:0<n:=by
            grind
           obtain ⟨newCap,eT,rest,fF,eO⟩:=hF.hnew (type:=type) (ts:=tts) (base:=none) (len:=0) (c:=0) (xs:=uxs) (old:= #[]) (by simp [Builtin.firstCells]) (by omega) (by simpa [Vg] using hrm);simp only [Ah,Array.empty_append] at eO eT fF;have hsum:vs.size+rest.size=newCap*i.size:=by rw [hvsz,fF,hzs,<-AS];grind
           refine ⟨_,_,_,eO,WU h floor hvs rest e e _ _ (fun ρ' hρ'=> ?_),⟨rfl,rfl⟩,(fun _ _ _ _ _ _ _ _ _ _ _ e=>by cases e),fun _ _ k o h=>x6f h⟩;refine .sl _ 0 _ _ _ _ hρ' ?_ eT
           grind [D5]
        ·-- a slice
         rename_i b off len cap;split at ha
         .rename_i blk hm;split at ha
          .rename_i old hold;cases hrm: !blk.isObj&&Nat.ble ((len+n+1)*(i.bytes+1)) Vg with
           | false=>grind
           | true =>
            rw [hrm,Ab] at ha;simp only [Ac,Bh] at hrm;obtain ⟨hno,hrm⟩:=hrm;have hrm:=Ak hrm;have hrn:n=0\/(n+1)*(i.bytes+1)<=1099511627776:=.inr (AI (AE _ (by omega)) hrm);cases hs with
            | sl _ _ _ _ l c hρ eT hlc=>
             obtain ⟨hpold,holdl,holdle⟩:=Mb hold;have fU:=(h.blk b l blk hρ hm).at hno;have hln:=fU.n;have hmul:(len+n)*i.size=len*i.size+n*i.size:=AS _ _ _;have hoff:off+len*i.size<=blk.cells.length\/len*i.size=0:=(by omega);have hcos:Xq st.mem i.size (.sl b off len cap)=some (len,old):=(by simp [Xq,hm,hold,hno]);obtain ⟨_,hfo⟩:=Vs (P:=P) h hcos (.sl b off len cap l c hρ eT hlc) holdl;obtain ⟨ovs,hovs,hof⟩:=hfo len (Aq _);rw [A6 (by omega)] at hovs;have hovz:ovs.size=len*i.size:=by rw [<-hovs.1];exact holdl
             have hof1:(Builtin.firstCells i.size len (.slice (some ⟨l.blk,l.base+off,none⟩) len c)).run P w.drew=.ok ovs w.drew:=hof (w.drawn+1);have inplace: ∀v st',len+n<=c->floor<=b->off+(len+n)*i.size<=blk.cells.length->
               some (CA.sl b off (len+n) cap,st.withMem (Wv st.mem b (some ⟨blk.cells.take (off+len*i.size)++new++blk.cells.drop (off+(len+n)*i.size),blk.ty,none⟩)))=some (v,st')->(∀z,cap=.un z->z=i.size)->
               ∃ρ' u w',(Builtin.append_ (t::tu::tts).toArray type ((.slice (some ⟨l.blk,l.base+off,none⟩) len c)::ux::uxs).toArray).run P w=.ok u w'/\Dg ρ floor st st' v w ρ' u w'/\(st'.env=st.env/\st'.ob=st.ob)/\j9w ρ st.mem (.sl b off len cap::x::txs) w w':=by
              intro v st' eR hfl eW he hzc;simp only [Ae,Ad] at he;obtain ⟨rfl,rfl⟩:=he;obtain ⟨cur,el,hw,hcsz,eI⟩:=h.write hρ hm (off:=off+len*i.size) (cs:=new) (vs:=vs.toList) hno (by grind) (by omega) (fun j h1 h2=>by simpa using hvs.2 j h1 (by grind));have hst:=run_storeCells_at P l.blk (l.base+off+len*i.size) el vs.toList 0 cur w hw (by grind) fC;rw [Bo] at hst;have eO:=hF.hin (type:=type) (ts:=tts) (base:=some ⟨l.blk,l.base+off,none⟩) (len:=len) (c:=c) (xs:=uxs) hrn eR (w':=w.setRow l.blk (cur.toList.take (l.base+off+len*i.size)++vs.toList++cur.toList.drop (l.base+off+len*i.size+vs.toList.length)).toArray)
               (fun a e=>by cases e;rw [Xf];exact hst) (fun e=>by cases e)
              refine ⟨ρ,_,_,eO,⟨.sl _ _ _ _ l c hρ eT (by omega),?_,Ev.ofWrite h hρ hfl _ _⟩,⟨rfl,rfl⟩,(fun b' off' len' z b2 o2 n2 c2 r blk' l' e hn hm' hend hl'=> ?keep),fun _ e=>by cases e⟩
              case keep=>exfalso;cases e;obtain rfl:=hzc _ rfl;rw [hm] at hm';obtain rfl:=Ag hm';obtain rfl:=w1l hcs;have:1*i.size<=n*i.size:=AE _ hn;omega
              have e1:off+len*i.size+new.length=off+(len+n)*i.size:=(by omega);rw [e1] at eI
              simpa only [St.withMem,AK] using eI
             have anew: ∀v st' (st1:St),c<len+n->CH ρ st1.mem st1.next w->Ev ρ ρ floor st.mem st.next st1.mem st1.next w w->st1.env=st.env->st1.ob=st.ob->
               some (CA.sl st1.next 0 (len+n) (.un i.size),Cy st1 (old++new) e)=some (v,st')->
               ∃ρ' u w',(Builtin.append_ (t::tu::tts).toArray type ((.slice (some ⟨l.blk,l.base+off,none⟩) len c)::ux::uxs).toArray).run P w=.ok u w'/\Dg ρ floor st st' v w ρ' u w'/\(st'.env=st.env/\st'.ob=st.ob)/\j9w ρ st.mem (.sl b off len cap::x::txs) w w':=by
              intro v st' st1 eR fM hev1 eP hob he;simp only [Ae,Ad] at he;obtain ⟨rfl,rfl⟩:=he;obtain ⟨newCap,gI,rest,fF,eO⟩:=hF.hnew (type:=type) (ts:=tts) (base:=some ⟨l.blk,l.base+off,none⟩) (len:=len) (c:=c) (xs:=uxs) hof1 eR (by simpa [Vg] using hrm);have hov:=hovs.append hvs;have hsum:(ovs++vs).size +rest.size=newCap*i.size:=by rw [Array.size_append,hovz,hvsz,fF,hzs,<-AS,<-AS];grind
              have hp:=WU fM floor hov rest e e (.sl st1.next 0 (len+n) (.un i.size)) (.slice (some ⟨w.heap.size,0,none⟩) (len+n) newCap) (fun ρ' hρ'=>by
               refine .sl _ 0 _ _ _ _ hρ' ?_ gI
               grind [D5])
              refine ⟨_,_,_,eO,⟨hp.val,hp.rel,hev1.trans hp.ev⟩,⟨?_,?_⟩,(fun b' off' len' z b2 o2 n2 c2 r blk' l' e hn hm' hend hl'=> ?keep),fun _ e=>by cases e⟩
              case keep=>have hq:=h.blk b' l' blk' hl' hm';refine hq.world (CF.le_refl ρ) ?_;obtain ⟨_,g1⟩:=hq.some;rw [g1];exact x6f g1
              all_goals simp_all [Cy]
             split at ha
             ·-- the capacity is known
              rename_i k;simp only [D5] at eT;subst eT;cases hk:Nat.ble (len+n) c with
              | true=>
               rw [hk,Ab] at ha;have hk:=Ak hk;cases hf:(Nat.ble floor b&&Nat.ble (off+(len+n)*i.size) blk.cells.length) with
               | false=>grind
               | true=>rw [hf,Ab] at ha;simp_all
              | false=>
               rw [hk,Aa] at ha;have hk: ¬len+n<=c:=fun e=>by rw [AX e] at hk;cases hk
               exact anew _ _ st (by omega) h (Ev.refl _ _ _ _ _ h.dom) rfl rfl ha
             ·-- it is not
              rename_i zz;simp only [D5] at eT;cases hf:(Nat.beq zz i.size&&Nat.ble floor b) with
              | false=>grind
              | true=>
               rw [hf,Ab] at ha;simp only [Ac] at hf;have hzz:=Ai hf.1;have hfl:=Ak hf.2;subst hzz;cases hk:Nat.ble (off+(len+n)*i.size) blk.cells.length with
               | true=>
                rw [hk,Ab] at ha;have hk:=Ak hk;have eR:len+n<=c:=by rw [hln] at eT;have:(len+n)*i.size<=c*i.size:=(by omega);exact Nat.le_of_mul_le_mul_right this hsz
                grind
               | false=>
                rw [hk,Aa] at ha;cases hend:Nat.beq (off+len*i.size) blk.cells.length with
                | false=>grind
                | true=>
                 rw [hend,Ab] at ha;have hend:=Ai hend;by_cases eR:len+n<=c
                 ·-- there is Vg: behind what is told
                  simp only [Ae,Ad] at ha;obtain ⟨rfl,rfl⟩:=ha;have hcm:(len+n)*i.size<=c*i.size:=AE _ eR;obtain ⟨cur,el,hw,hcsz,eI⟩:=h.beyond hρ hm hno (off:=off) (new:=new) (vs:=vs.toList) e (by grind) (by omega) (by omega) (fun j h1 h2=>by simpa using hvs.2 j h1 (by grind)) (by simpa [tyOk,J3,hu,hm] using hty);have hst:=run_storeCells_at P l.blk (l.base+off+len*i.size) el vs.toList 0 cur w hw (by grind) fC;rw [Bo] at hst;have eO:=hF.hin (type:=type) (ts:=tts) (base:=some ⟨l.blk,l.base+off,none⟩) (len:=len) (c:=c) (xs:=uxs) hrn eR (w':=w.setRow l.blk (cur.toList.take (l.base+off+len*i.size)++vs.toList++cur.toList.drop (l.base+off+len*i.size+vs.toList.length)).toArray)
                   (fun a e=>by cases e;rw [Xf];exact hst) (fun e=>by cases e)
                  have hod:old=blk.cells.drop off:=by rw [hpold];exact A6 (by simp;omega)
                  refine ⟨_,_,_,eO,⟨.sl _ 0 _ _ ⟨l.blk,l.base+off,blk.cells.length - off+new.length,l.tot - off⟩ c (by simp [Vn]) ?_ (by omega),?_,Ev.ofBeyond h hρ hfl ⟨l.blk,l.base+off,blk.cells.length - off+new.length,l.tot - off⟩ rfl _ _⟩,⟨rfl,rfl⟩,(fun b' off' len' z b2 o2 n2 c2 r blk' l' e hn hm' _ hl'=> ?keep),fun _ e=>by cases e⟩
                  case keep=>
                   cases e;rw [hm] at hm';obtain rfl:=Ag hm';rw [hρ] at hl';obtain rfl:=Ag hl';obtain ⟨q0,q1,q2,q3,cs0,el0,q4,q5,q6⟩:=fU;rw [hw] at q4;obtain ⟨rfl,rfl⟩:cur=cs0/\el=el0:=by
                    grind
                   obtain ⟨cs1,s1,s2,s3⟩:=x9g (vs:=vs.toList) hw (m:=l.base+off+len*i.size) (by grind);refine .plain ⟨by rw [s1];grind,q1,q2,q3,cs1,el,s1,by grind,fun k hk=> ?_⟩;obtain ⟨v,r1,r2⟩:=q6 k hk
                   grind
                  .simp only [D5];omega
                  .rw [hod];have e2:l.base+off+len*i.size=l.base+blk.cells.length:=(by omega);rw [e2]
                   simpa only [Cy,St.withMem] using eI
                 .exact anew _ _ (st.withMem (Wv st.mem b none)) (by omega) (h.kill b) (Ev.ofKill h floor hρ) rfl rfl ha
          .cases ha
         .cases ha
        .cases ha
      .cases ha
     .cases ha
    .cases ha
 .cases ha
theorem w5k {get:Nat->zy} {off len n sz N:Nat} {new:zy} (hl: ∀i,i<N->(get i).length =sz) (hN:off+len=N) (hnew:new.length=n*sz):
  (∀i,i<len+n->(Zr get off len sz new i).length =sz)/\rows (len+n) (Zr get off len sz new)=((rows N get).drop (off*sz)).take (len*sz)++new:=by
 have h1: ∀i,i<len+n->(Zr get off len sz new i).length =sz:=fun i hi=>by
  unfold Zr;cases e:Nat.ble len i with
  | true=>
   have:=Ak e;simp only [Ab,Bt,Bz,hnew];have:(i - len+1)*sz<=n*sz:=AE sz (by omega)
   grind
  | false=>
   have: ¬len<=i:=fun h=>by rw [AX h] at e;cases e
   grind
 refine ⟨h1,?_⟩;have eK:=Ym (len+n) h1;have hlenN:=Ym N hl;have hd:((rows N get).drop (off*sz)).length =len*sz:=by rw [Bz,hlenN,<-hN,AS];omega
 rw [A6 (by omega)];apply List.ext_getElem?;intro i;by_cases hi:i<(len+n)*sz
 .have hsz:0<sz:=by
   grind
  have hj:i %sz<sz:=BA _ hsz;have hq:i / sz<len+n:=Bl (by grind);have e:i=i / sz*sz+i %sz:=by rw [BJ];exact (BB i sz).symm
  generalize i / sz=q at*;generalize i %sz=j at*;subst e;rw [Vk (len+n) h1 q j hq hj];unfold Zr;cases e:Nat.ble len q with
  | true=>
   have hle:=Ak e;have:len*sz<=q*sz:=AE sz hle;simp only [Ab];rw [List.getElem?_append_right (by omega),hd,List.getElem?_take,AF hj,List.getElem?_drop]
   congr 1
   rw [Nat.sub_mul];omega
  | false=>
   have hlt:q<len:=by
    rcases A8 q len with h | h
    .exact h
    .rw [AX h] at e;cases e
   have:(q+1)*sz<=len*sz:=AE sz hlt;rw [AS,B5] at this;simp only [Aa];rw [List.getElem?_append_left (by omega),List.getElem?_drop,<-Vk N hl (off+q) j (by omega) hj]
   grind
 grind
theorem w5p (n:Nat) (z:zy):DI n z=rows n fun _=>z:=by unfold DI rows;rw [List.flatMap_def,List.map_const',List.length_range]
theorem Ev.remem {ρ':CF} {floor:Nat} {m m' m'':CI} {n n':Nat} {w w':World} (h:Ev ρ ρ' floor m n m' n' w w') (hm: ∀b,b<n-> ∀cs ty,Yi m b=some ⟨cs,ty,none⟩->Yi m'' b=Yi m' b):Ev ρ ρ' floor m n m'' n' w w':=
 ⟨h.ext,h.new,h.nxt,fun b hb e cs ty hc=>by rw [hm b hb cs ty hc];exact h.unborn b hb e cs ty hc,h.frame,h.fresh,h.size,h.os,h.tape,h.output,h.still⟩
theorem CH.remem {mem mem':CI} {next:Nat} {w:World} (h:CH ρ mem next w) (hm: ∀b,Yi mem' b=Yi mem b):CH ρ mem' next w:=
 ⟨h.dom,fun b b' l l' e e' he hs hs'=>h.inj b b' l l' e e' he (by grind) (by grind),fun b l ab e hc=>h.blk b l ab e (by grind),h.old,fun b l e hs=>h.sep b l e (by grind),h.real,fun b hb=>by rw [hm];exact h.bd b hb,h.ldom⟩
theorem y2u {cx:CN} {st st':St} {w:World} (h:CH ρ st.mem st.next w) {t:TypeId} {x y v:CA} {ux uy:Value} (hb:Kg P cx st t x y=some (v,st')) (hob:st'.ob=true) (hx:VRel ρ x ux) (hy:VRel ρ y uy):
  ∃ρ' u w',(Instr.makeSlice t ux uy).run P w=.ok u w'/\Dg ρ cx.floor st st' v w ρ' u w':=by
 unfold Kg at hb;split at hb
 .rename_i e kl l kc c hu;split at hb
  .rename_i i zero hi hz;cases fI:(Nat.beq zero.length i.size&&Nat.ble 1 i.size) with
   | false=>grind
   | true=>
    rw [fI,Ab] at hb;simp only [Ac] at fI;obtain ⟨k1,k2⟩:=fI;have hzl:=Ai k1;simp only [Ar,Ad] at hb;obtain ⟨st1,ho,rfl,rfl⟩:=hb;obtain ⟨o1,o2,o3,o4⟩:=Rw ho;obtain ⟨hc,_⟩:=o4 hob;have m2:st1.mem=Wv st.mem st.next (some ⟨rows c.toNat fun _=>zero,e,some ⟨i.size,c.toNat,.flat fun _=>zero⟩⟩):=o2
    have n2:st1.next=st.next+1:=o3
    have h0:Jz P st t (.int kl l) (.int kc c)=some (.sl st.next 0 l.toNat (.ex c.toNat),Cy st (DI c.toNat zero) e):=by simp_all [Jz]
    obtain ⟨ρ',uv,w',eO,hp,_,_⟩:=z0k h cx.floor h0 hx hy;refine ⟨ρ',uv,w',eO,?_,?_,?_⟩
    .have hv:=hp.val;cases hv with
     | sl _ _ _ _ l' c' hρ' gI gF=>
      have hbk:=hp.rel.blk st.next l' ⟨DI c.toNat zero,e,none⟩ hρ' (Yw _ _ _)
      have hcn:c'=c.toNat:=gI;have q1:=hbk.n;have q2:=hbk.tot;simp only [S3,hzl] at q1;have:=VRel.sla (ρ:=ρ') st.next i.size 0 l.toNat (.un i.size) l' c' hρ' (by grind [D5]) gF
      grind
    .have hr:CH ρ' (Wv st.mem st.next (some ⟨DI c.toNat zero,e,none⟩)) (st.next+1) w':=hp.rel;rw [w5p] at hr;rw [m2,n2];obtain ⟨_,_,_,_,hzr,_⟩:=We (ρ:=ρ) hz;exact hr.setArr ⟨i.size,c.toNat,_⟩ (SR (ρ:=ρ) (fun v hv=>.inl (Uy.mem hzr v (w5j hv).choose_spec.2)) _ _) rfl (Ak k2) fun _ _=>hzl
    .rw [m2,n2];refine hp.ev.remem fun b' hb' cs ty hcs=> ?_;show _=Yi (Wv st.mem st.next _) b'
     grind [Zw]
  .cases hb
 .cases hb
theorem z7j {cx:CN} {st st':St} {w:World} (h:CH ρ st.mem st.next w) {ts:Array TypeId} {type:TypeId} {xs:zy} {us:Array Value} {v:CA} (ha:Ma P cx st ts.toList xs=some (v,st')) (hob:st'.ob=true) (hx:Vf (VRel ρ) xs us.toList) (hty:tyOk P st.mem ts.toList xs=true):
  ∃ρ' u w',(Builtin.append_ ts type us).run P w=.ok u w'/\Dg ρ cx.floor st st' v w ρ' u w'/\ ∀b sz off len z r blk l,xs=.sla b sz off len (.un z)::r->Yi st.mem b=some blk->ρ b=some l->Wn ρ w' blk l:=by
 obtain ⟨ul⟩:=us;simp only at hx;unfold Ma at ha;split at ha
 .rename_i t u tr b sz off len z x xr hts;split at ha
  .rename_i e ut hu hut;split at ha
   .cases ha
   .rename_i hni;split at ha
    .rename_i i hi;split at ha
     .rename_i n new zero blk hc hz hm;split at ha
      .rename_i A hA;cases fI:(Nat.beq zero.length i.size&&Nat.beq new.length (n*i.size)&&Nat.ble 1 i.size&&new.all DH&&Nat.beq sz i.size&&Nat.beq z sz&&Nat.ble cx.floor b&&Nat.ble 1 n) with
       | false=>grind
       | true=>
        rw [fI,Ab] at ha;have hchk0:=fI;simp only [Ac] at fI;obtain ⟨⟨⟨⟨⟨⟨⟨k1,k2⟩,k3⟩,k4⟩,k5⟩,k6⟩,k7⟩,k8⟩:=fI;obtain rfl:=Ai k5;obtain rfl:=Ai k6;have hnl:=Ai k2;have hsz1:=Ak k3;have hfl:=Ak k7;have hn1:=Ak k8;simp only [Ar,Ad] at ha;obtain ⟨st1,ho,rfl,rfl⟩:=ha;obtain ⟨o1,o2,o3,o4⟩:=Rw ho;obtain ⟨hb,_⟩:=o4 hob;simp only [Ac,Ao] at hb;obtain ⟨hAs,hfull,eR⟩:=hb;have hAs:=Ai hAs;have hbn:b<st.next:=by
         rcases A8 b st.next with g | g
         .exact g
         .rw [h.bd b g] at hm;cases hm
        have m2:st1.mem=Wv (Wv st.mem b none) st.next (some ⟨rows (len+n) (Zr A.get off len i.size new),e,some ⟨i.size,len+n,Zr A.get off len i.size new⟩⟩):=o2
        have n2:st1.next=st.next+1:=o3
        cases hx with
        | cons ha0 hr=>
         cases ha0 with
         | sla _ _ _ _ _ l c hρ eT eK=>
          have hb0:=(h.blk b l blk hρ hm).rows hA;have hno:=hb0.noObj;obtain ⟨fS,gG,eY⟩:=hb0.arr A hA;rw [hAs] at eY;obtain ⟨q1,q2⟩:=w5k (new:=new) eY hfull hnl;have hlenr:=Ym A.n eY;have hmul:off*i.size+len*i.size=A.n*i.size:=(by grind);have hcut:cut blk.cells (off*i.size) (len*i.size)=some ((blk.cells.drop (off*i.size)).take (len*i.size)):=by
           unfold cut;simp only;rw [show Nat.beq ((blk.cells.drop (off*i.size)).take (len*i.size)).length (len*i.size)=true from by
            rw [Nat.beq_eq];simp [fS,hlenr];omega]
           rfl
          have hroom':Nat.ble ((len+n+1)*(i.bytes+1)) Vg=true:=AX eR;have hnot:Nat.ble (off*i.size+(len+n)*i.size) blk.cells.length=false:=by
           have:1*i.size<=n*i.size:=AE _ hn1;cases g:Nat.ble (off*i.size+(len+n)*i.size) blk.cells.length with
           | false=>rfl
           | true=>
            have:=Ak g
            grind
          have Dz:Nat.beq (off*i.size+len*i.size) blk.cells.length=true:=(by simp_all);have h0:GI P cx.floor st ts.toList (.sl b (off*i.size) len (.un i.size)::x::xr)=some (.sl st.next 0 (len+n) (.un i.size),Cy (st.withMem (Wv st.mem b none)) (((blk.cells.drop (off*i.size)).take (len*i.size))++new) e):=by
           rw [hts];unfold GI;simp only [hu,hut,hi,hz]
           grind [Ju]
          obtain ⟨ρ',uv,w',eO,hp,_,hkeep⟩:=W5 (type:=type) h cx.floor h0 (us:=⟨_⟩) (.cons (.sl _ _ _ _ l c hρ eT eK) hr) (by rw [hts] at hty ⊢;simpa [tyOk,J3,hu,hm] using hty);refine ⟨ρ',uv,w',eO,⟨?_,?_,?_⟩,fun b' sz' off' len' z' r' blk' l' e hm' hl'=> ?_⟩
          rotate_left 3
          .injection e with e1 _;injection e1 with f1 _ _ _ _;subst f1;rw [hm] at hm';obtain rfl:=Ag hm';have hxs: ∃b2 o2 c2,x=.sl b2 o2 n c2:=by
            unfold Xq at hc;split at hc
            .grind
            .split at hc
             .obtain ⟨_,hc⟩:=Mp hc;simp_all
             .cases hc
            .cases hc
           obtain ⟨b2,o2,c2,rfl⟩:=hxs;exact hkeep.1 _ _ _ _ _ _ _ _ _ _ _ rfl hn1 hm (by grind) hl'
          .have hv:=hp.val;cases hv with
           | sl _ _ _ _ l' c' hρ' gI gF=>
            have:=VRel.sla (ρ:=ρ') st.next i.size 0 (len+n) (.un i.size) l' c' hρ' (by grind) gF
            grind
          .have hr:=hp.rel;rw [m2,n2];have hr:CH ρ' (Wv (Wv st.mem b none) st.next (some ⟨((blk.cells.drop (off*i.size)).take (len*i.size))++new,e,none⟩)) (st.next+1) w':=hr;have gJ:=SR (ρ:=ρ) (cs:=((blk.cells.drop (off*i.size)).take (len*i.size))++new) (fun v hv=>(AJ.1 hv).elim (fun k=>.inl (hb0.mem v (List.mem_of_mem_drop (List.mem_of_mem_take k)))) (fun k=>.inr (As.1 k4 v k))) e none;rw [fS,<-q2] at hr gJ;exact hr.setArr ⟨i.size,len+n,_⟩ gJ rfl hsz1 q1
          .rw [m2,n2];refine hp.ev.remem fun b' hb' cs ty hcs=> ?_;have hne:b'≠b:=fun e=>by grind
           show _=Yi (Wv (Wv st.mem b none) st.next _) b';rw [Zw _ _ (by omega),Zw _ _ hne,Zw _ _ (by omega),Zw _ _ hne]
         | slan=>
          have hq:=w5k (get:=fun _=>List.replicate i.size CA.undef) (off:=0) (len:=0) (N:=0) (new:=new) (fun i hi=>absurd hi (AD _)) rfl hnl;have hfe:Zr (fun _=>List.replicate i.size CA.undef) 0 0 i.size new=Zr A.get off 0 i.size new:=rfl;rw [hfe] at hq;obtain ⟨q1,q2⟩:=hq;have hn0:Nat.beq n 0=false:=by cases n with | zero=>omega | succ n=>rfl
          have hroom':Nat.ble ((n+1)*(i.bytes+1)) Vg=true:=AX (by grind);have h0:GI P cx.floor st ts.toList (.nils ::x::xr)=some (.sl st.next 0 n (.un i.size),Cy st new e):=by
           rw [hts];unfold GI
           grind [Ju]
          obtain ⟨ρ',uv,w',eO,hp,_,hkeep⟩:=W5 (type:=type) h cx.floor h0 (us:=⟨_⟩) (.cons .nils hr) (by rw [hts];simp [tyOk,hu]);refine ⟨ρ',uv,w',eO,⟨?_,?_,?_⟩,fun b' sz' off' len' z' r' blk' l' e hm' hl'=> ?_⟩
          rotate_left 3
          .have hq:=h.blk b' l' blk' hl' hm';refine hq.world (CF.le_refl ρ) ?_;obtain ⟨_,g1⟩:=hq.some;rw [g1];exact hkeep.2 _ rfl _ _ g1
          .have hv:=hp.val;rw [Ah];cases hv with
           | sl _ _ _ _ l' c' hρ' gI gF=>
            have:=VRel.sla (ρ:=ρ') st.next i.size 0 n (.un i.size) l' c' hρ' (by grind) gF
            grind
          .have hr:CH ρ' (Wv st.mem st.next (some ⟨new,e,none⟩)) (st.next+1) w':=hp.rel;have hr:=hr.kill b;have hr:CH ρ' (Wv (Wv st.mem b none) st.next (some ⟨new,e,none⟩)) (st.next+1) w':=hr.remem fun b'=>by
            simp only [Vc];by_cases e1:b'=st.next
            .rw [AF e1,Az (by omega),AF e1]
            simp_all
           rw [show new=rows (0+n) (Zr A.get off 0 i.size new) by rw [q2];simp] at hr;rw [m2,n2];have gJ:=u3u k4 e none;rw [show new=rows (0+n) (Zr A.get off 0 i.size new) by rw [q2];simp] at gJ;have:=hr.setArr ⟨i.size,0+n,Zr A.get off 0 i.size new⟩ gJ rfl hsz1 q1;exact this
          .rw [m2,n2];refine hp.ev.remem fun b' hb' cs ty hcs=> ?_;have hne:b'≠b:=fun e=>by grind
           show _=Yi (Wv st.mem st.next _) b';rw [Zw _ _ (by omega),Zw _ _ hne,Zw _ _ (by omega)]
      .cases ha
     .cases ha
    .cases ha
  .cases ha
 .cases ha
theorem CH.ghost {mem:CI} {next:Nat} {w:World} (h:CH ρ mem next w) (o:Option CG):CH ρ (Wv mem next o) (next+1) w:=by
 have ne: ∀c l,ρ c=some l->c≠next:=fun c l e=>Bp (h.dom c l e)
 refine ⟨fun c l e=>Bs (h.dom c l e),fun c c' m m' e e' he hs hs'=> ?_,fun c m ac e hc=> ?_,h.old,fun c m e hs=> ?_,h.real,fun c hc=> ?_,⟨fun j l e=>Bs (h.ldom.1 j l e),h.ldom.2⟩⟩
 .rw [Zw _ _ (ne _ _ e)] at hs;rw [Zw _ _ (ne _ _ e')] at hs';exact h.inj c c' m m' e e' he hs hs'
 .rw [Zw _ _ (ne _ _ e)] at hc;exact h.blk c m ac e hc
 .rw [Zw _ _ (ne _ _ e)] at hs;exact h.sep c m e hs
 .rw [Zw _ _ (by omega)];exact h.bd c (by omega)
theorem Ev.ghost {mem:CI} {next:Nat} {w:World} (h:CH ρ mem next w) (floor:Nat) (o:Option CG):Ev ρ ρ floor mem next (Wv mem next o) (next+1) w w where
 ext:=CF.le_refl _
 new _ _:=rfl
 nxt:=B4 _
 unborn k hk _ cs ty hm:=by grind [Zw]
 frame _ _ hk _:=hk
 fresh k m hk e:=by have:=h.dom k m e;omega
 size:=Aq _
 os:=rfl
 tape:=rfl
 output:=rfl
 still _ _:=rfl
theorem v8y {mem:CI} {next:Nat} {w:World} (h:CH ρ mem next w) {n sz:Nat} {g:Nat->zy} {ux:Value} (hx:VRel ρ (.dat n g) ux) (hg: ∀i,i<n->(g i).length =sz) (hsz:1<=sz):
  (∀w,(Builtin.lenOf ux).run P w=.ok n w)/\ ∃vs:Array Value,Uy ρ (rows n g) vs/\ ∀d,(Builtin.firstCells sz n ux).run P {w with drawn:=d}=.ok vs {w with drawn:=d}:=by
 cases hx with
 | datn=>exact ⟨fun w=>by simp [Builtin.lenOf], #[],⟨by simp [rows],fun i h1 h2=>by grind⟩,fun d=>by simp [Builtin.firstCells]⟩
 | datz=>exact ⟨fun w=>by simp [Builtin.lenOf], #[],⟨by simp [rows],fun i h1 h2=>by grind⟩,fun d=>by simp [Builtin.firstCells,loadCells,loadCellsFrom]⟩
 | dat _ _ blk base sz' cap val eT gO hv hh=>
  refine ⟨fun w=>by simp [Builtin.lenOf],?_⟩;have hl:=Ym n hg;have hdiv: ∀k,k<n*sz->k / sz<n/\k %sz<sz/\k / sz*sz+k %sz=k:=fun k hk=>
   ⟨Bl (by grind),BA _ hsz,by rw [BJ];exact BB k sz⟩
  have fG: ∀(d k:Nat),k<n*sz->({w with drawn:=d}:World).cell? ((⟨blk,base,none⟩:Addr).add k)=some (val (k / sz) (k %sz)):=by
   intro d k hk;obtain ⟨hq,hj,e4⟩:=hdiv k hk;have hs:sz'=sz:=by grind
   obtain ⟨cs,el,fz,e1,e2⟩:=hh (k / sz) (k %sz) hq (by omega);have e3:=h.old _ _ e1
   grind [Xf,World.cell?]
  refine ⟨_,⟨?_,?_⟩,fun d=>by simp only [Builtin.firstCells];exact run_loadCells _ _ _ (fun k=>val (k / sz) (k %sz)) (fG d)⟩
  .simp [hl]
  .intro k h1 h2;obtain ⟨hq,hj,e4⟩:=hdiv k (by grind);have hj':k %sz<(g (k / sz)).length :=by grind
   have hr:=Vk n hg (k / sz) (k %sz) hq hj;rw [e4,At h1,At hj'] at hr;rw [Ag hr]
   simpa using (hv (k / sz) (k %sz) hq hj').mono (Sd ρ)
theorem SH {g:Nat->zy} {p:CA->Bool} (n:Nat) (h: ∀i,i<n->(g i).all p=true):(rows n g).all p=true:=by
 grind [rows]
theorem SW {get:Nat->zy} {sz N off len:Nat} (hl: ∀i,i<N->(get i).length =sz) (h:off+len<=N):rows len (fun k=>get (off+k))=((rows N get).drop (off*sz)).take (len*sz):=by
 have h1: ∀k,k<len->(get (off+k)).length =sz:=fun k hk=>hl _ (by omega);have hL:=Ym len h1;have hN:=Ym N hl;have hm:(off+len)*sz<=N*sz:=AE _ h;rw [AS] at hm;apply List.ext_getElem?;intro i;by_cases hi:i<len*sz
 .have hsz:0<sz:=by
   grind
  have hj:i %sz<sz:=BA _ hsz;have hq:i / sz<len:=Bl (by grind);have e:i / sz*sz+i %sz=i:=by rw [BJ];exact BB i sz
  have a1:=Vk len h1 (i / sz) (i %sz) hq hj;have a2:=Vk N hl (off+i / sz) (i %sz) (by omega) hj
  grind
 grind
theorem x8w (s:zw):rows s.length (ZJ s)=s.map fun b=>CA.int .u8 b.toNat:=by
 unfold rows ZJ;rw [<-List.map_eq_flatMap];refine BO (by simp) fun i h1 h2=> ?_;have hi:i<s.length:=by simpa using h2
 simp only [B7,List.getElem_range];unfold Cr;rw [Bk,At hi];rfl
theorem x2i {mem:CI} {next:Nat} {w:World} (h:CH ρ mem next w) {t u e:TypeId} {ut:TypeDesc} {i:TypeInfo} {z:Value} {zero:zy} {x:CA} {ux:Value} {n:Nat} {g:Nat->zy} {o:Bool} (hu:P.underlying t=some (.slice e)) (hut:P.underlying u=some ut) (hi:P.info? e=some i) (hz:i.zero=some z)
  (hzr:Uy ρ zero z.cells) (hzl:zero.length=i.size) (hzs:zero.all DH=true) (hsz:1<=i.size) (hc:Y4 mem i.size zero ut x=some (n,g,o)) (ho:o=true) (hx:VRel ρ x ux):
  (∀k,k<n->(g k).length =i.size)/\ ∃vs,ZK P ρ t u e i z ux n (rows n g) vs w/\ ∀v∈vs.toList,v.oneCell'=true:=by
 subst ho;unfold Y4 at hc;split at hc
 .rename_i k m;split at hc
  .rename_i kt;simp only [Ae,Ad] at hc;obtain ⟨rfl,rfl,h0⟩:=hc;have hcs:Ju mem i.size zero (.int kt) (.int k m)=some (m.toNat,DI m.toNat zero):=by
    grind [Ju]
   obtain ⟨vs,hF⟩:=Ku (P:=P) (u:=u) (t:=t) h hu hut hi hz hzr hzl hcs hx (by rw [S3,hzl]);rw [w5p] at hF;exact ⟨fun _ _=>hzl,vs,hF,VRel.cells_oneCell hF.rel (SH _ fun _ _=>hzs)⟩
  .cases hc
 .rename_i nn gg;split at hc
  .cases hc
  .rename_i hni;simp only [Ae,Ad] at hc;obtain ⟨rfl,rfl,h0⟩:=hc;have hp:=QX h0;obtain ⟨eK,vs,hvs,hfc⟩:=v8y (P:=P) h hx (fun i hi=>(hp i hi).1) hsz;have gH:(Builtin.firstCells i.size nn ux).run P w=.ok vs w:=hfc w.drawn;have hfc1:(Builtin.firstCells i.size nn ux).run P w.drew=.ok vs w.drew:=hfc (w.drawn+1);exact ⟨fun i hi=>(hp i hi).1,vs,⟨hvs,fun _ eR _ hst hno=>z3f hu hut (fun k e=>hni k e) hi (eK w) gH eR hst hno,fun hold eR fL=>z1v hu hut (fun k e=>hni k e) hi hz (eK w) hfc1 hold eR fL⟩,
    VRel.cells_oneCell hvs (SH _ fun i hi=>(hp i hi).2)⟩
 .split at hc
  .cases hc
  .rename_i hni;simp only [Ae,Ad] at hc;obtain ⟨rfl,rfl,_⟩:=hc;have hcs:Ju mem i.size zero ut .nils =some (0,[]):=by
    unfold Ju;split
    .grind
    .rfl
   obtain ⟨vs,hF⟩:=Ku (P:=P) (u:=u) (t:=t) h hu hut hi hz hzr hzl hcs hx (by simp);exact ⟨fun k hk=>absurd hk (AD _),vs,hF,VRel.cells_oneCell hF.rel rfl⟩
 .rename_i b zz off len0 cap;split at hc
  .cases hc
  .rename_i hni;split at hc
   .rename_i cells ty A hm;simp only [Ae,Ad,Ac,Ao] at hc;obtain ⟨rfl,rfl,h1,h2,eW,h4⟩:=hc;have hp:=QX h4;have h1:=Ai h1;have h2:=Ai h2;subst h1;have nc: ∀v,Ju mem i.size zero ut v=Xq mem i.size v:=fun v=>by
     grind [Ju]
    cases hx with
    | sla _ _ _ _ _ l c hρ eT hlc=>
     obtain ⟨fS,gG,eY⟩:=(h.blk b l _ hρ hm).arr A rfl;rw [h2] at eY;simp only at fS;have hrp:=SW eY eW;have hlr:=Ym A.n eY;have hm2:(off+len0)*i.size<=A.n*i.size:=AE _ eW;rw [AS] at hm2;have eK:((cells.drop (off*i.size)).take (len0*i.size)).length =len0*i.size:=by
      grind
     have hcut:cut cells (off*i.size) (len0*i.size)=some ((cells.drop (off*i.size)).take (len0*i.size)):=by simp_all [cut]
     have hcs:Ju mem i.size zero ut (.sl b (off*i.size) len0 (.ex c))=some (len0,(cells.drop (off*i.size)).take (len0*i.size)):=by have hno:(⟨cells,ty,some A⟩:CG).isObj =false:=((h.blk b l _ hρ hm).rows rfl).noObj;rw [nc];simp [Xq,hm,hcut,hno]
     obtain ⟨vs,hF⟩:=Ku (P:=P) (u:=u) (t:=t) h hu hut hi hz hzr hzl hcs (.sl b (off*i.size) len0 (.ex c) l c hρ rfl hlc) eK;rw [fS,<-hrp] at hF;exact ⟨fun k hk=>(hp k hk).1,vs,hF,VRel.cells_oneCell hF.rel (SH _ fun k hk=>(hp k hk).2)⟩
    | slan=>
     have hcs:Ju mem i.size zero ut .nils =some (0,[]):=by rw [nc];rfl
     obtain ⟨vs,hF⟩:=Ku (P:=P) (u:=u) (t:=t) h hu hut hi hz hzr hzl hcs .nils (by simp);exact ⟨fun k hk=>absurd hk (AD _),vs,hF,VRel.cells_oneCell hF.rel rfl⟩
   .cases hc
 .rename_i s;split at hc
  .obtain ⟨hs1,hc⟩:=Qi hc;have hs1:=Ai hs1;simp only [Ae,Ad] at hc;obtain ⟨rfl,rfl,_⟩:=hc;cases hx;have hvs:Uy ρ (rows s.length (ZJ s)) (s.map fun b=>Value.int .u8 b.toNat).toArray :=by rw [x8w];refine ⟨by simp,fun j h1 h2=> ?_⟩;simp only [B7,List.getElem_toArray];exact .int _ _
   have hl: ∀w,(Builtin.lenOf (.string ⟨s.toArray⟩)).run P w=.ok s.length w:=fun w=>by simp [Builtin.lenOf,<-ByteArray.size_data]
   have hfc: ∀w,(Builtin.firstCells i.size s.length (.string ⟨s.toArray⟩)).run P w=.ok (s.map fun b=>Value.int .u8 b.toNat).toArray w:=fun w=>by simp [Builtin.firstCells,ByteArray.data_extract]
   exact ⟨fun k hk=>hs1.symm,_,⟨hvs,fun _ eR _ hst hno=>z3f hu hut (fun k e=>by cases e) hi (hl w) (hfc w) eR hst hno,fun hold eR fL=>z1v hu hut (fun k e=>by cases e) hi hz (hl w) (hfc _) hold eR fL⟩,
    VRel.cells_oneCell hvs (SH _ fun i hi=>rfl)⟩
  .cases hc
 .cases hc
def j9x (P:Program) (ρ:CF) (floor:Nat) (mem mem':CI) (next:Nat) (sz:Nat) (e:TypeId) (N:Nat) (G:Nat->zy) (w:World) (r:World->Result Value):Prop:=
 ∃ρ' u w',r w=.ok u w'/\VRel ρ' (.sla next sz 0 N (.un sz)) u/\CH ρ' (Wv mem' next (some ⟨rows N G,e,some ⟨sz,N,G⟩⟩)) (next+1) w'/\Ev ρ ρ' floor mem next (Wv mem' next (some ⟨rows N G,e,some ⟨sz,N,G⟩⟩)) (next+1) w w'
theorem y7s {mem:CI} {next:Nat} {w:World} (h:CH ρ mem next w) (floor:Nat) {t u e:TypeId} {type:TypeId} {ts:List TypeId} {xs:List Value} {i:TypeInfo} {z ux:Value} {n:Nat} {new:zy} {vs:Array Value} (hF:ZK P ρ t u e i z ux n new vs w)
  (fC: ∀v∈vs.toList,v.oneCell'=true) (hnl:new.length=n*i.size) (hzs:z.cells.size=i.size) (hsz:1<=i.size) {len c off b:Nat} {l:CZ} {blk:CG} (hrm:(len+n+1)*(i.bytes+1)<=Vg)
  (hρ:ρ b=some l) (hm:Yi mem b=some blk) (hno:blk.isObj=false) (hfl:floor<=b) (hoff:off+len*i.size<=blk.cells.length) (hlc:len<=c) (eT:(l.n<=off+c*i.size/\off+c*i.size<=l.tot)\/c<=len)
  {G:Nat->zy} (hG:rows (len+n) G=(blk.cells.drop off).take (len*i.size)++new) (hGl: ∀k,k<len+n->(G k).length =i.size) (htyb:blk.ty=e):
  j9x P ρ floor mem (Wv mem b none) next i.size e (len+n) G w fun w=>(Builtin.append_ (t::u::ts).toArray type ((.slice (some ⟨l.blk,l.base+off,none⟩) len c)::ux::xs).toArray).run P w:=by
 have hvs:=hF.rel;have hvsz:vs.size=n*i.size:=by rw [<-hvs.1];exact hnl
 have hbk:=(h.blk b l blk hρ hm).at hno;have hln:=hbk.n;have htot:=hbk.tot;have hmul:(len+n)*i.size=len*i.size+n*i.size:=AS _ _ _;have hcut:cut blk.cells off (len*i.size)=some ((blk.cells.drop off).take (len*i.size)):=by unfold cut;simp only;rw [show Nat.beq ((blk.cells.drop off).take (len*i.size)).length (len*i.size)=true from by rw [Nat.beq_eq];simp;omega];rfl
 have hcos:Xq mem i.size (.sl b off len (.ex c))=some (len,(blk.cells.drop off).take (len*i.size)):=by simp [Xq,hm,hcut,hno]
 have holdl:((blk.cells.drop off).take (len*i.size)).length =len*i.size:=by simp;omega
 obtain ⟨_,hfo⟩:=Vs (P:=P) h hcos (.sl b off len (.ex c) l c hρ rfl hlc) holdl;obtain ⟨ovs,hovs,hof⟩:=hfo len (Aq _);rw [A6 (by omega)] at hovs;have hovz:ovs.size=len*i.size:=by rw [<-hovs.1];exact holdl
 have hof1:(Builtin.firstCells i.size len (.slice (some ⟨l.blk,l.base+off,none⟩) len c)).run P w.drew=.ok ovs w.drew:=hof (w.drawn+1);have hrn:n=0\/(n+1)*(i.bytes+1)<=1099511627776:=.inr (AI (AE _ (by omega)) hrm);have gJ:(⟨rows (len+n) G,e,none⟩:CG).isObj =false:=by rw [hG];exact SR (fun v hv=>.inl (Uy.mem (hovs.append hvs) v hv)) _ _
 by_cases eR:len+n<=c
 ·-- there is Vg
  have hcm:(len+n)*i.size<=c*i.size:=AE _ eR;obtain ⟨T,t1,t2,t3⟩: ∃T,off+len*i.size - off+new.length<=T/\off+T<=l.tot/\c*i.size<=T:=by
   rcases eT with ⟨c1,c2⟩ | c1
   .exact ⟨l.tot - off,by omega,by omega,by omega⟩
   .have:n=0:=(by omega);subst this;have:c=len:=(by omega);subst this;exact ⟨c*i.size,by omega,by omega,by omega⟩
  obtain ⟨cur,el,hw,hcsz,eI⟩:=h.beyond2 hρ hm hno (off:=off) (m:=off+len*i.size) (T:=T) (new:=new) (vs:=vs.toList) e (by grind) (by omega) hoff t1 t2 (fun j h1 h2=>by simpa using hvs.2 j h1 (by grind)) htyb;have hst:=run_storeCells_at P l.blk (l.base+off+len*i.size) el vs.toList 0 cur w hw (by grind) fC;rw [Bo] at hst;have eO:=hF.hin (type:=type) (ts:=ts) (base:=some ⟨l.blk,l.base+off,none⟩) (len:=len) (c:=c) (xs:=xs) hrn eR (w':=w.setRow l.blk (cur.toList.take (l.base+off+len*i.size)++vs.toList++cur.toList.drop (l.base+off+len*i.size+vs.toList.length)).toArray)
   (fun a e=>by cases e;rw [Xf];exact hst) (fun e=>by cases e)
  have hdt:(blk.cells.take (off+len*i.size)).drop off=(blk.cells.drop off).take (len*i.size):=by
   grind
  rw [hdt,<-hG,<-AK] at eI;refine ⟨_,_,_,eO,?_,eI.setArr ⟨i.size,len+n,G⟩ gJ rfl hsz hGl,?_⟩
  .have:=VRel.sla (ρ:=Vn ρ next ⟨l.blk,l.base+off,off+len*i.size - off+new.length,T⟩) next i.size 0 (len+n) (.un i.size) ⟨l.blk,l.base+off,off+len*i.size - off+new.length,T⟩ c (by simp [Vn])
    (by grind [D5]) (by omega)
   grind
  grind [Ev.ofBeyond]
 ·-- a new row
  let st:St:=⟨.leaf,mem,next,[],true⟩
  have fM:CH ρ (st.withMem (Wv mem b none)).mem (st.withMem (Wv mem b none)).next w:=h.kill b
  obtain ⟨newCap,gI,rest,fF,eO⟩:=hF.hnew (type:=type) (ts:=ts) (base:=some ⟨l.blk,l.base+off,none⟩) (len:=len) (c:=c) (xs:=xs) hof1 (by omega) (by simpa [Vg] using hrm);have hov:=hovs.append hvs;have hsum:(ovs++vs).size +rest.size=newCap*i.size:=by rw [Array.size_append,hovz,hvsz,fF,hzs,<-AS,<-AS];grind
  have hp:=WU fM floor hov rest e e (.sla next i.size 0 (len+n) (.un i.size)) (.slice (some ⟨w.heap.size,0,none⟩) (len+n) newCap) (fun ρ' hρ'=>by
   have:=VRel.sla (ρ:=ρ') next i.size 0 (len+n) (.un i.size) _ newCap hρ' (by
    grind [D5]) gI
   grind)
  rw [<-hG] at hp;refine ⟨Vn ρ next ⟨w.heap.size,0,(rows (len+n) G).length,(ovs++vs).size +rest.size⟩,_,_,eO,hp.val,?_,?_⟩
  .exact CH.setArr hp.rel ⟨i.size,len+n,G⟩ gJ rfl hsz hGl
  .refine ((Ev.ofKill h floor hρ).trans hp.ev).remem fun b' hb' cs ty hcs=> ?_;have hne: ¬b'=next:=Bp hb'
   show Yi (Wv (Wv mem b none) next _) b'=Yi (Wv (Wv mem b none) next _) b';simp only [Vc,Az hne]
theorem x6y {mem:CI} {next:Nat} {w:World} (h:CH ρ mem next w) (floor:Nat) {t u e:TypeId} {type:TypeId} {ts:List TypeId} {xs:List Value} {i:TypeInfo} {z ux:Value} {n:Nat} {new:zy} {vs:Array Value} (hF:ZK P ρ t u e i z ux n new vs w)
  (hnl:new.length=n*i.size) (hzs:z.cells.size=i.size) (hsz:1<=i.size) (hrm:(0+n+1)*(i.bytes+1)<=Vg) {G:Nat->zy} (hG:rows (0+n) G=new) (hGl: ∀k,k<0+n->(G k).length =i.size):
  j9x P ρ floor mem mem next i.size e (0+n) G w fun w=>(Builtin.append_ (t::u::ts).toArray type ((.slice none 0 0)::ux::xs).toArray).run P w:=by
 have hvs:=hF.rel;have hvsz:vs.size=n*i.size:=by rw [<-hvs.1];exact hnl
 rcases Nat.eq_zero_or_pos n with hn0 | hnpos
 .subst hn0;have eO:=hF.hin (type:=type) (ts:=ts) (base:=none) (len:=0) (c:=0) (xs:=xs) (.inl rfl) (Aq _) (w':=w) (fun a e=>by cases e) (fun _=>rfl);exact ⟨ρ,_,w,eO,.slan _ _ _ _,h.ghost _,Ev.ghost h floor _⟩
 .obtain ⟨newCap,eT,rest,fF,eO⟩:=hF.hnew (type:=type) (ts:=ts) (base:=none) (len:=0) (c:=0) (xs:=xs) (old:= #[]) (by simp [Builtin.firstCells]) (by omega) (by simpa [Vg] using hrm);have e0:(#[]:Array Value)++vs=vs:=by simp
  rw [e0] at eO;have hsum:vs.size+rest.size=newCap*i.size:=by rw [hvsz,fF,hzs,<-AS];grind
  let st:St:=⟨.leaf,mem,next,[],true⟩
  have fM:CH ρ st.mem st.next w:=h
  have hp:=WU fM floor hvs rest e e (.sla next i.size 0 (0+n) (.un i.size)) (.slice (some ⟨w.heap.size,0,none⟩) (0+n) newCap) (fun ρ' hρ'=>by
   have:=VRel.sla (ρ:=ρ') next i.size 0 (0+n) (.un i.size) _ newCap hρ' (by
    grind [D5]) eT
   grind)
  rw [<-hG] at hp;refine ⟨Vn ρ next ⟨w.heap.size,0,(rows (0+n) G).length,vs.size+rest.size⟩,_,_,eO,hp.val,CH.setArr hp.rel ⟨i.size,0+n,G⟩ (by rw [hG];exact SR (fun v hv=>.inl (Uy.mem hvs v hv)) _ _) rfl hsz hGl,?_⟩
  .refine hp.ev.remem fun b' hb' cs ty hcs=> ?_;have hne: ¬b'=next:=Bp hb'
   show Yi (Wv mem next _) b'=Yi (Wv mem next _) b';simp only [Vc,Az hne]
theorem Kf {α β:Type} {f g:α->List β}: ∀{l:List α},(∀a,a∈l->f a=g a)->l.flatMap f=l.flatMap g
 | [],_=>rfl
 | a::l,h=>by rw [List.flatMap_cons,List.flatMap_cons,h a (by simp),Kf fun b hb=>h b (by simp [hb])]
theorem XV {get g:Nat->zy} {len n sz:Nat} (hl: ∀i,i<len->(get i).length =sz) (hg: ∀i,i<n->(g i).length =sz):
  (∀i,i<len+n->(Jf get len g i).length =sz)/\rows (len+n) (Jf get len g)=rows len get++rows n g:=by
 have h1: ∀i,i<len+n->(Jf get len g i).length =sz:=fun i hi=>by
  unfold Jf;cases e:Nat.ble len i with
  | true=>
   have:=Ak e
   grind
  | false=>
   have: ¬len<=i:=fun h=>by rw [AX h] at e;cases e
   grind
 refine ⟨h1,?_⟩;unfold rows;rw [List.range_add,List.flatMap_append]
 congr 1
 .refine Kf fun i hi=> ?_;have:=AL.1 hi;unfold Jf;rw [show Nat.ble len i=false from A7.2 fun e=>by have:=Ak e;omega];rfl
 .rw [List.flatMap_map];refine Kf fun i hi=> ?_;unfold Jf;rw [show Nat.ble len (len+i)=true from AX (B8 _ _),Ab,Nat.add_sub_cancel_left]
theorem x9y {sz:Nat}: ∀(n:Nat) (l:zy),l.length=n*sz->rows n (fun k=>(l.drop (k*sz)).take sz)=l/\ ∀k,k<n->((l.drop (k*sz)).take sz).length =sz:=by
 intro n l hl;have h1: ∀k,k<n->((l.drop (k*sz)).take sz).length =sz:=fun k hk=>by
  have:(k+1)*sz<=n*sz:=AE _ hk
  grind
 refine ⟨?_,h1⟩;have eK:=Ym n h1;apply List.ext_getElem?;intro i;by_cases hi:i<n*sz
 .have hsz:0<sz:=by
   grind
  have hj:i %sz<sz:=BA _ hsz;have hq:i / sz<n:=Bl (by grind);have e:i / sz*sz+i %sz=i:=by rw [BJ];exact BB i sz
  grind [Vk]
 grind
theorem x0b {cx:CN} {st st':St} {w:World} (h:CH ρ st.mem st.next w) {ts:Array TypeId} {type:TypeId} {xs:zy} {us:Array Value} {v:CA} (ha:HP P cx st ts.toList xs=some (v,st')) (hob:st'.ob=true) (hx:Vf (VRel ρ) xs us.toList) (hty:tyOk P st.mem ts.toList xs=true):
  ∃ρ' u w',(Builtin.append_ ts type us).run P w=.ok u w'/\Dg ρ cx.floor st st' v w ρ' u w':=by
 obtain ⟨ts⟩:=ts;obtain ⟨us⟩:=us;simp only at ha hx;unfold HP at ha;split at ha
 .rename_i t tu tts s x txs;cases hx with
  | @cons _ su _ _ hs hx=>
   cases hx with
   | @cons _ ux _ uxs hx _=>
    split at ha
    .rename_i e ut hu hut;split at ha
     .rename_i i zero hi hz;split at ha
      .rename_i b len get o1 n g o2 ht hc;obtain ⟨i2,z,hi2,hz2,hzr,_⟩:=We (ρ:=ρ) hz;obtain rfl:i=i2:=by grind
       obtain ⟨fI,ha⟩:=Qi ha;simp only [Ac] at fI;obtain ⟨⟨⟨hzl,hzsc⟩,hsz⟩,hfl⟩:=fI;have hzl:=Ai hzl;have hsz:=Ak hsz;have hzs:z.cells.size=i.size:=by rw [<-hzr.1];exact hzl
       simp only [Ar,Ad] at ha;obtain ⟨st1,ho,rfl,rfl⟩:=ha;obtain ⟨_,m2,n2,o4⟩:=Rw ho;obtain ⟨hb,_⟩:=o4 hob;simp only [Ac,Ao] at hb;obtain ⟨hb1,hb2,hrm⟩:=hb;have m2:st1.mem=Wv (NK st.mem b) st.next (some ⟨rows (len+n) (Jf get len g),e,some ⟨i.size,len+n,Jf get len g⟩⟩):=m2
       have n2:st1.next=st.next+1:=n2
       obtain ⟨hgl,vs,hF,fC⟩:=x2i (P:=P) (u:=tu) (t:=t) h hu hut hi hz2 hzr hzl hzsc hsz hc hb2 hx.unN;have hnl:=Ym n hgl
       suffices j9x P ρ cx.floor st.mem (NK st.mem b) st.next i.size e (len+n) (Jf get len g) w fun w=>(Builtin.append_ (t::tu::tts).toArray type (su::ux::uxs).toArray).run P w by obtain ⟨ρ',u,w',eO,hv,hr,hev⟩:=this;exact ⟨ρ',u,w',eO,hv,by grind,by grind⟩
       unfold Q4 at ht;split at ht
       .simp only [Ae,Ad] at ht;obtain ⟨rfl,rfl,rfl,_⟩:=ht;cases hs;obtain ⟨q1,q2⟩:=XV (get:=fun _=>[]) (len:=0) (fun i hi=>absurd hi (AD _)) hgl;exact x6y h cx.floor hF hnl hzs hsz hrm (by rw [q2];simp [rows]) q1
       .rename_i b0 off len0 cap;split at ht
        .rename_i blk hm;split at ht
         .rename_i old hold;obtain ⟨gA,ht⟩:=Qi ht;simp only [Ac,Bh] at gA;obtain ⟨hno,gA,hoff⟩:=gA;have hoff:=Ak hoff;simp only [Ae,Ad] at ht;obtain ⟨rfl,rfl,rfl,_⟩:=ht;obtain ⟨k1,k2,k3⟩:=Mb hold;obtain ⟨r1,r2⟩:=x9y len0 old k2;obtain ⟨q1,q2⟩:=XV r2 hgl;cases hs with
          | sl _ _ _ _ l c hρ eT hlc=>
           have hbk:=h.blk b0 l blk hρ hm;have k4:off+len0*i.size<=blk.cells.length:=(by omega);refine y7s h cx.floor hF fC hnl hzs hsz hrm hρ hm hno (Ak hfl) k4 hlc ?_ (by grind) q1 (by simpa [tyOk,J3,hu,hm] using hty);cases cap with
           | ex k=>exact .inr (by simp only [D5] at eT;rw [eT];exact Ak gA)
           | un zz=>
            have:=Ai gA
            grind [D5]
         .cases ht
        .cases ht
       .rename_i b0 zz off len0 cap;split at ht
        .rename_i blk hm;split at ht
         .rename_i A hA;obtain ⟨gA,ht⟩:=Qi ht;simp only [Ae,Ad] at ht;obtain ⟨rfl,rfl,rfl,rfl⟩:=ht;simp only [Ac,Ao] at hb1;obtain ⟨hz1,hz2',eW⟩:=hb1;obtain rfl:=Ai hz1;have hAs:=Ai hz2';cases hs with
          | sla _ _ _ _ _ l c hρ eT hlc=>
           obtain ⟨fS,gG,eY⟩:=(h.blk b0 l blk hρ hm).arr A hA;rw [hAs] at eY;have hlr:=Ym A.n eY;have hgl0: ∀k,k<len0->(A.get (off+k)).length =i.size:=fun k hk=>eY _ (by omega);obtain ⟨q1,q2⟩:=XV hgl0 hgl;have hm2:(off+len0)*i.size<=A.n*i.size:=AE _ eW;rw [AS] at hm2;refine y7s h cx.floor hF fC hnl hzs hsz hrm hρ hm ((h.blk b0 l blk hρ hm).rows hA).noObj (Ak hfl) (by grind) hlc ?_ (by rw [q2,SW eY eW,fS]) q1 (by simpa [tyOk,J3,hu,hm] using hty);cases cap with
           | ex k=>exact .inr (by simp only [D5] at eT;rw [eT];exact Ak gA)
           | un zz=>
            have:=Ai gA
            grind [D5]
          | slan=>
           obtain ⟨q1,q2⟩:=XV (get:=fun k=>A.get (off+k)) (len:=0) (fun i hi=>absurd hi (AD _)) hgl;obtain ⟨ρ',u,w',eO,hv,hr,hev⟩:=x6y (P:=P) (type:=type) (ts:=tts) (xs:=uxs) h cx.floor hF hnl hzs hsz hrm (G:=Jf (fun k=>A.get (off+k)) 0 g) (by rw [q2];simp [rows]) q1;have hbn:b0<st.next:=by
            rcases A8 b0 st.next with g | g
            .exact g
            .rw [h.bd b0 g] at hm;cases hm
           refine ⟨ρ',u,w',eO,hv,?_,?_⟩
           .refine (hr.kill b0).remem fun b'=> ?_;simp only [NK,Vc];by_cases e1:b'=st.next
            .rw [AF e1,Az (by omega),AF e1]
            simp_all
           .refine hev.remem fun b' hb' cs ty hcs=> ?_;have hne:b'≠b0:=fun e=>by grind
            show Yi (Wv (Wv st.mem b0 none) st.next _) b'=Yi (Wv st.mem st.next _) b';rw [Zw _ _ (by omega),Zw _ _ hne,Zw _ _ (by omega)]
         .cases ht
        .cases ht
       .cases ht
      .cases ha
     .cases ha
    .cases ha
 .cases ha
theorem w4g {st st':St} {w:World} (h:CH ρ st.mem st.next w) (floor:Nat) {ts:Array TypeId} {type:TypeId} {xs:zy} {us:Array Value} {v:CA} (ha:ND P floor st ts.toList xs=some (v,st')) (hx:Vf (VRel ρ) xs us.toList):
  ∃ρ' u w',(Builtin.copy_ ts type us).run P w=.ok u w'/\Dg ρ floor st st' v w ρ' u w'/\st'.env=st.env/\st'.ob=st.ob:=by
 obtain ⟨ts⟩:=ts;obtain ⟨us⟩:=us;simp only at ha hx;unfold ND at ha;split at ha
 .rename_i t _ d x _;cases hx with
  | @cons _ ud _ _ hd hx=>
   cases hx with
   | @cons _ ux _ uxs hx _=>
    split at ha
    .rename_i e hu;split at ha
     .rename_i i hi;split at ha
      .rename_i m src hcs;cases hc:(Nat.beq src.length (m*i.size)&&src.all DH) with
       | false=>grind
       | true=>
        rw [hc,Ab] at ha;simp only [Ac] at hc;have hsl:=Ai hc.1;have hsc:=hc.2;obtain ⟨eK,fD⟩:=Vs (P:=P) h hcs hx hsl;split at ha
        .cases hd;simp only [Ae,Ad] at ha;obtain ⟨rfl,rfl⟩:=ha;obtain ⟨vs,hvs,hfc⟩:=fD 0 (AA _);have gH:(Builtin.firstCells i.size 0 ux).run P w=.ok vs w:=hfc w.drawn;refine ⟨ρ,_,w,?_,⟨.int _ _,h,Ev.refl _ _ _ _ _ h.dom⟩,rfl,rfl⟩;simp_all [Builtin.copy_,run_underlying,Yz,goInt]
        .rename_i dn dg;obtain ⟨hdn,ha'⟩:=Qi ha;clear ha;obtain rfl:=Ai hdn;simp only [Ae,Ad] at ha';obtain ⟨rfl,rfl⟩:=ha';obtain ⟨vs,hvs,hfc⟩:=fD 0 (AA _);have gH:(Builtin.firstCells i.size 0 ux).run P w=.ok vs w:=hfc w.drawn;have hv0:vs= #[]:=by
          have:vs.size=0:=by rw [<-hvs.1];simp
          grind
         subst hv0;cases hd with
         | datn=>refine ⟨ρ,_,w,?_,⟨.int _ _,h,Ev.refl _ _ _ _ _ h.dom⟩,rfl,rfl⟩;simp_all [Builtin.copy_,run_underlying,Yz,goInt]
         | datz=>refine ⟨ρ,_,w,?_,⟨.int _ _,h,Ev.refl _ _ _ _ _ h.dom⟩,rfl,rfl⟩;simp_all [Builtin.copy_,run_underlying,Yz,goInt,storeCells]
         | dat=>refine ⟨ρ,_,w,?_,⟨.int _ _,h,Ev.refl _ _ _ _ _ h.dom⟩,rfl,rfl⟩;simp_all [Builtin.copy_,run_underlying,Yz,goInt,storeCells]
        .rename_i b off len cap;split at ha
         .rename_i blk hm;dsimp only at ha;cases hf:(!blk.isObj&&(Nat.ble floor b&&Nat.ble (off+(Nat.min m len)*i.size) blk.cells.length)) with
          | false=>grind
          | true=>
           rw [hf,Ab] at ha;simp only [Ac,Bh] at hf;obtain ⟨hno,hf⟩:=hf;have hfl:=Ak hf.1;have eW:=Ak hf.2;simp only [Ae,Ad] at ha;obtain ⟨rfl,rfl⟩:=ha;cases hd with
           | sl _ _ _ _ l c hρ eT hlc=>
            have hmin:Nat.min m len<=m:=Nat.min_le_left _ _;have hmul:Nat.min m len*i.size<=m*i.size:=AE _ hmin;obtain ⟨vs,hvs,hfc⟩:=fD (Nat.min m len) hmin;have gH:(Builtin.firstCells i.size (Nat.min m len) ux).run P w=.ok vs w:=hfc w.drawn;have fC:=VRel.cells_oneCell hvs (As.2 fun a ha=>As.1 hsc a (List.mem_of_mem_take ha));have hvl:(src.take (Nat.min m len*i.size)).length =Nat.min m len*i.size:=(by grind);obtain ⟨cur,el,hw,hcsz,eI⟩:=h.write hρ hm (off:=off) (cs:=src.take (Nat.min m len*i.size)) (vs:=vs.toList) hno (by simpa using hvs.1.symm) (by grind) (fun j h1 h2=>by simpa using hvs.2 j h1 (by grind));have hst:=run_storeCells_at P l.blk (l.base+off) el vs.toList 0 cur w hw (by grind) fC;rw [Bo] at hst;refine ⟨ρ,.int .i64 (Nat.min m len),w.setRow l.blk (cur.toList.take (l.base+off)++vs.toList++cur.toList.drop (l.base+off+vs.toList.length)).toArray,?_,⟨.int _ _,?_,Ev.ofWrite h hρ hfl _ _⟩,rfl,rfl⟩;all_goals simp_all [Builtin.copy_,run_underlying,Yz,goInt,St.withMem]
         .cases ha
        .cases ha
      .cases ha
     .cases ha
    .cases ha
 .cases ha
theorem v8x {mem:CI} {next:Nat} {w:World} (h:CH ρ mem next w) {n sz:Nat} {g:Nat->zy} {ux:Value} (hx:VRel ρ (.dat n g) ux) (hg: ∀i,i<n->(g i).length =sz) (hsz:1<=sz) {m:Nat} (hm:m<=n):
  (∀w,(Builtin.lenOf ux).run P w=.ok n w)/\ ∃vs:Array Value,Uy ρ (rows m g) vs/\ ∀d,(Builtin.firstCells sz m ux).run P {w with drawn:=d}=.ok vs {w with drawn:=d}:=by
 cases hx with
 | datn=>
  obtain rfl:m=0:=by omega
  exact ⟨fun w=>by simp [Builtin.lenOf], #[],⟨by simp [rows],fun i h1 h2=>by grind⟩,fun d=>by simp [Builtin.firstCells]⟩
 | datz=>
  obtain rfl:m=0:=by omega
  exact ⟨fun w=>by simp [Builtin.lenOf], #[],⟨by simp [rows],fun i h1 h2=>by grind⟩,fun d=>by simp [Builtin.firstCells,loadCells,loadCellsFrom]⟩
 | dat _ _ blk base sz' cap val eT gO hv hh=>
  refine ⟨fun w=>by simp [Builtin.lenOf],?_⟩;have hg': ∀i,i<m->(g i).length =sz:=fun i hi=>hg i (by omega);have hl:=Ym m hg';have hdiv: ∀k,k<m*sz->k / sz<m/\k %sz<sz/\k / sz*sz+k %sz=k:=fun k hk=>
   ⟨Bl (by grind),BA _ hsz,by rw [BJ];exact BB k sz⟩
  have fG: ∀(d k:Nat),k<m*sz->({w with drawn:=d}:World).cell? ((⟨blk,base,none⟩:Addr).add k)=some (val (k / sz) (k %sz)):=by
   intro d k hk;obtain ⟨hq,hj,e4⟩:=hdiv k hk;have hs:sz'=sz:=by grind
   obtain ⟨cs,el,fz,e1,e2⟩:=hh (k / sz) (k %sz) (by omega) (by omega);have e3:=h.old _ _ e1
   grind [Xf,World.cell?]
  refine ⟨_,⟨?_,?_⟩,fun d=>by simp only [Builtin.firstCells];exact run_loadCells _ _ _ (fun k=>val (k / sz) (k %sz)) (fG d)⟩
  .simp [hl]
  .intro k h1 h2;obtain ⟨hq,hj,e4⟩:=hdiv k (by grind);have hj':k %sz<(g (k / sz)).length :=by grind
   have hr:=Vk m hg' (k / sz) (k %sz) hq hj;rw [e4,At h1,At hj'] at hr;rw [Ag hr]
   simpa using (hv (k / sz) (k %sz) (by omega) hj').mono (Sd ρ)
theorem x5r {g:Nat->zy} {sz n m:Nat} (hg: ∀i,i<n->(g i).length =sz) (hm:m<=n):(rows n g).take (m*sz)=rows m g:=by
 have:=SW (off:=0) (len:=m) hg (by omega)
 grind
theorem v4v {get g:Nat->zy} {sz N off n:Nat} (hl: ∀i,i<N->(get i).length =sz) (hg: ∀i,i<n->(g i).length =sz) (h:off+n<=N):
  (∀i,i<N->(Ur get off n g i).length =sz)/\rows N (Ur get off n g)=(rows N get).take (off*sz)++rows n g++(rows N get).drop (off*sz+n*sz):=by
 have h1: ∀i,i<N->(Ur get off n g i).length =sz:=fun i hi=>by
  unfold Ur;cases e:(Nat.ble off i&&Nat.ble (i+1) (off+n)) with
  | true=>
   simp only [Ac] at e;have e1:=Ak e.1;have e2:=Ak e.2
   grind
  | false=>exact hl _ hi
 refine ⟨h1,?_⟩;obtain ⟨r,rfl⟩: ∃r,N=off+(n+r):=⟨N - off - n,by omega⟩
 have e2:off*sz+n*sz=(off+n)*sz:=(AS _ _ _).symm;rw [x5r hl (by omega),e2];have e3:(rows (off+(n+r)) get).drop ((off+n)*sz)=rows r fun k=>get (off+n+k):=by
  rw [SW (off:=off+n) (len:=r) hl (by omega)];rw [A6];have:=Ym _ hl
  grind
 rw [e3];unfold rows;rw [List.range_add,List.range_add,List.flatMap_append,BC,List.flatMap_append,<-AH]
 congr 1
 .congr 1
  .refine Kf fun i hi=> ?_;have:=AL.1 hi;unfold Ur;rw [show Nat.ble off i=false from A7.2 fun e=>by have:=Ak e;omega];rfl
  .rw [List.flatMap_map];refine Kf fun i hi=> ?_;have:=AL.1 hi;unfold Ur;rw [AX (show off<=off+i by omega),AX (show off+i+1<=off+n by omega),Nat.add_sub_cancel_left];rfl
 .rw [BW,List.flatMap_map];refine Kf fun i hi=> ?_;unfold Ur;show (bif Nat.ble off (off+(n+i))&&Nat.ble (off+(n+i)+1) (off+n) then _ else _)=_;rw [show Nat.ble (off+(n+i)+1) (off+n)=false from A7.2 fun e=>by have:=Ak e;omega,A1,Aa]
  grind
theorem x4h {mem:CI} {next:Nat} {w:World} (h:CH ρ mem next w) {sz:Nat} (hsz:1<=sz) {x:CA} {ux:Value} {m:Nat} {g:Nat->zy} {o:Bool} (hc:w3r mem sz x=some (m,g,o)) (ho:o=true) (hx:VRel ρ x ux):
  (∀k,k<m->(g k).length =sz/\(g k).all DH=true)/\ ∀n,n<=m->(∀w,(Builtin.lenOf ux).run P w=.ok m w)/\ ∃vs:Array Value,Uy ρ (rows n g) vs/\ ∀d,(Builtin.firstCells sz n ux).run P {w with drawn:=d}=.ok vs {w with drawn:=d}:=by
 subst ho;have part: ∀(b z off len c:Nat) (l:CZ) (blk:CG) (A:Da),ρ b=some l->Yi mem b=some blk->blk.arr=some A->len<=c->(Nat.beq z sz&&(Nat.beq A.sz sz&&(decide (off+len<=A.n)&&EY sz len fun k=>A.get (off+k))))=true->
   (∀k,k<len->(A.get (off+k)).length =sz/\(A.get (off+k)).all DH=true)/\ ∀n,n<=len->(∀w,(Builtin.lenOf (.slice (some ⟨l.blk,l.base+off*z,none⟩) len c)).run P w=.ok len w)/\ ∃vs:Array Value,Uy ρ (rows n fun k=>A.get (off+k)) vs/\ ∀d,(Builtin.firstCells sz n (.slice (some ⟨l.blk,l.base+off*z,none⟩) len c)).run P {w with drawn:=d}=.ok vs {w with drawn:=d}:=by
  intro b z off len c l blk A hρ hm hA eK ho;simp only [Ac,Ao] at ho;obtain ⟨k1,k2,k3,k4⟩:=ho;obtain rfl:=Ai k1;have k2:=Ai k2;have k4:=QX k4;refine ⟨k4,fun n hn=> ?_⟩;have hno:=((h.blk b l blk hρ hm).rows hA).noObj;obtain ⟨fS,gG,eY⟩:=(h.blk b l blk hρ hm).arr A hA;rw [k2] at eY;have hlr:=Ym A.n eY;have hm2:(off+len)*z<=A.n*z:=AE _ k3;rw [AS] at hm2;have hpl:=SW eY k3;have hL:(rows len fun k=>A.get (off+k)).length =len*z:=Ym len fun i hi=>(k4 i hi).1;have hcs:Xq mem z (.sl b (off*z) len (.ex c))=some (len,rows len fun k=>A.get (off+k)):=by simp_all [Xq,cut]
  obtain ⟨q1,q2⟩:=Vs (P:=P) h hcs (.sl b (off*z) len (.ex c) l c hρ rfl eK) hL
  grind [x5r]
 have none0: ∀(g:Nat->zy) (n:Nat) (p:Option Addr) (c:Nat),n<=0->(∀w,(Builtin.lenOf (.slice p 0 c)).run P w=.ok 0 w)/\ ∃vs:Array Value,Uy ρ (rows n g) vs/\ ∀d,(Builtin.firstCells sz n (.slice p 0 c)).run P {w with drawn:=d}=.ok vs {w with drawn:=d}:=by
  intro g n p c hn;obtain rfl:n=0:=by omega
  cases p with
  | none=>exact ⟨fun w=>by simp [Builtin.lenOf], #[],⟨by simp [rows],fun i h1 h2=>by grind⟩,fun d=>by simp [Builtin.firstCells]⟩
  | some a=>refine ⟨fun w=>by simp [Builtin.lenOf],_,⟨?_,fun i h1 h2=>by simp [rows] at h1⟩,fun d=>by simp only [Builtin.firstCells];exact run_loadCells _ _ _ (fun _=>undef) fun k hk=>by grind⟩;simp [rows]
 unfold w3r at hc;split at hc
 .simp only [Ae,Ad] at hc;obtain ⟨rfl,rfl,_⟩:=hc;cases hx;exact ⟨fun k hk=>absurd hk (AD _),fun n hn=>none0 _ n none 0 hn⟩
 .rename_i n' g';simp only [Ae,Ad] at hc;obtain ⟨rfl,rfl,h0⟩:=hc;have hp:=QX h0;exact ⟨hp,fun n hn=>v8x (P:=P) h hx (fun i hi=>(hp i hi).1) hsz hn⟩
 .split at hc
  .rename_i blk hm;split at hc
   .rename_i A hA;simp only [Ae,Ad] at hc;obtain ⟨rfl,rfl,h0⟩:=hc;cases hx with
    | sla _ _ _ _ _ l c hρ eT eK=>grind
    | slan=>exact ⟨fun k hk=>absurd hk (AD _),fun n hn=>none0 _ n none 0 hn⟩
   .cases hc
  .cases hc
 .split at hc
  .rename_i blk hm;split at hc
   .rename_i A hA;simp only [Ae,Ad] at hc;obtain ⟨rfl,rfl,h0⟩:=hc;cases hx with
    | slv _ _ _ _ l c hρ eK=>grind
    | slve=>exact ⟨fun k hk=>absurd hk (AD _),fun n hn=>none0 _ n _ _ hn⟩
    | slvn=>exact ⟨fun k hk=>absurd hk (AD _),fun n hn=>none0 _ n none 0 hn⟩
   .cases hc
  .cases hc
 .cases hc
theorem CH.reblk {mem:CI} {next:Nat} {w:World} (h:CH ρ mem next w) {b:Nat} {blk blk':CG} (hm:Yi mem b=some blk) (hb: ∀l,ρ b=some l->Wn ρ w blk l->Wn ρ w blk' l):CH ρ (Wv mem b (some blk')) next w:=by
 have iff: ∀c,(Yi (Wv mem b (some blk')) c).isSome =true->(Yi mem c).isSome =true:=fun c hc=>by
  grind [Vc]
 have hlt:b<next:=by
  rcases A8 b next with q | q
  .exact q
  .rw [h.bd b q] at hm;cases hm
 refine ⟨h.dom,fun c c' m m' e e' he hs hs'=>h.inj c c' m m' e e' he (iff c hs) (iff c' hs'),fun c m ac e hc=> ?_,h.old,fun c m e hs=>h.sep c m e (iff c hs),h.real,fun c hc=> ?_,h.ldom⟩
 .grind [Vc,blk]
 .rw [Zw _ _ (by omega)];exact h.bd c hc
theorem Ev.put {mem:CI} {next:Nat} {w:World} (h:CH ρ mem next w) (floor:Nat) {b:Nat} {blk:CG} {A:Da} (hm:Yi mem b=some blk) (hA:blk.arr=some A) (o:Option CG):Ev ρ ρ floor mem next (Wv mem b o) next w w where
 ext:=CF.le_refl _
 new _ _:=rfl
 nxt:=Aq _
 unborn k _ e cs ty hk:=by
  grind [Zw]
 frame _ _ hk _:=hk
 fresh k m hk e:=by have:=h.dom k m e;omega
 size:=Aq _
 os:=rfl
 tape:=rfl
 output:=rfl
 still _ _:=rfl
theorem y3r {cx:CN} {st st':St} {w:World} (h:CH ρ st.mem st.next w) {ts:Array TypeId} {type:TypeId} {us:Array Value} {b sz off len:Nat} {d x:CA} {xs:zy} {v:CA} (ha:JJ P cx st ts.toList b sz off len x=some (v,st')) (hob:st'.ob=true) (hx:Vf (VRel ρ) (d::x::xs) us.toList)
  (hd: ∀u,VRel ρ d u->(∃l c,ρ b=some l/\len<=c/\u=.slice (some ⟨l.blk,l.base+off*sz,none⟩) len c)\/(len=0/\ ∃p c,u=.slice p 0 c)):
  ∃ρ' u w',(Builtin.copy_ ts type us).run P w=.ok u w'/\Dg ρ cx.floor st st' v w ρ' u w':=by
 obtain ⟨ts⟩:=ts;obtain ⟨us⟩:=us;simp only at ha hx;unfold JJ at ha;split at ha
 .rename_i t _;cases hx with
  | @cons _ ud _ _ hd0 hx=>
   cases hx with
   | @cons _ ux _ uxs hx _=>
    split at ha
    .rename_i e hu;split at ha
     .rename_i i blk hi hm;split at ha
      .rename_i A m g o hA hcs;obtain ⟨fI,ha⟩:=Qi ha;simp only [Ac] at fI;have hfl:=Ak fI.1;have hsz:=Ak fI.2;simp only [Ar,Ad] at ha;obtain ⟨st1,ho,rfl,rfl⟩:=ha;obtain ⟨_,m2,n2,o4⟩:=Rw ho;obtain ⟨hb,_⟩:=o4 hob;simp only [Ac,Ao] at hb;obtain ⟨k1,k2,k3,k4⟩:=hb;obtain rfl:=Ai k1;have k2:=Ai k2;have m2:st1.mem=Wv st.mem b (some ⟨rows A.n (Ur A.get off (Nat.min m len) g),blk.ty,some ⟨A.sz,A.n,Ur A.get off (Nat.min m len) g⟩⟩):=m2;have n2:st1.next=st.next:=n2
       obtain ⟨hg,fD⟩:=x4h (P:=P) h hsz hcs k4 hx;have hmin:Nat.min m len<=m:=Nat.min_le_left _ _;have hmin2:Nat.min m len<=len:=Nat.min_le_right _ _;obtain ⟨eK,vs,hvs,hfc⟩:=fD (Nat.min m len) hmin;have gH:(Builtin.firstCells i.size (Nat.min m len) ux).run P w=.ok vs w:=hfc w.drawn;have hgl: ∀k,k<Nat.min m len->(g k).length =i.size:=fun k hk=>(hg k (by omega)).1;have hrl:=Ym (Nat.min m len) hgl;have fC:=VRel.cells_oneCell hvs (SH _ fun k hk=>(hg k (by omega)).2);have hbn:b<st.next:=by
        rcases A8 b st.next with q | q
        .exact q
        .rw [h.bd b q] at hm;cases hm
       have nothing:Nat.min m len=0->CH ρ st1.mem st1.next w/\Ev ρ ρ cx.floor st.mem st.next st1.mem st1.next w w:=fun e0=>by
        rw [m2,n2,e0];have same: ∀k,Ur A.get off 0 g k=A.get k:=fun k=>by
         unfold Ur;cases e:(Nat.ble off k&&Nat.ble (k+1) (off+0)) with
         | true=>simp only [Ac] at e;have e1:=Ak e.1;have e2:=Ak e.2;omega
         | false=>rfl
        have same:Ur A.get off 0 g=A.get:=funext same;rw [same];refine ⟨?_,Ev.put h cx.floor hm hA _⟩;refine h.reblk hm fun l hρ hbk=> ?_;have hbk:=hbk.rows hA;obtain ⟨fS,gG,eY⟩:=hbk.arr A hA;refine .plain ⟨by have:=hbk.typ;grind,by rw [hbk.n,fS],hbk.tot,fun B hB=> ?_,?_⟩
        .obtain rfl:=Ag hB;exact ⟨rfl,gG,eY⟩
        .have:=hbk.cells
         grind
       rcases hd ud hd0 with ⟨l,c,hρ,hlc,rfl⟩ | ⟨rfl,p,c,rfl⟩
       .have hb0:=(h.blk b l blk hρ hm).rows hA;have hno:=hb0.noObj;obtain ⟨fS,gG,eY⟩:=hb0.arr A hA;rw [k2] at eY;have hlr:=Ym A.n eY;have hfitN:off+Nat.min m len<=A.n:=(by omega);obtain ⟨c1,c2⟩:=v4v eY hgl hfitN;have hm3:(off+Nat.min m len)*i.size<=A.n*i.size:=AE _ hfitN;rw [AS] at hm3;obtain ⟨cur,el,hw,hcsz,eI⟩:=h.write hρ hm (off:=off*i.size) (cs:=rows (Nat.min m len) g) (vs:=vs.toList) hno (by simpa using hvs.1.symm) (by grind) (fun j h1 h2=>by simpa using hvs.2 j h1 (by grind));have gJ:=hb0.splice (off:=off*i.size) (cs:=rows (Nat.min m len) g) (vs:=vs.toList) (by simpa using hvs.1.symm) (by grind) (fun j h1 h2=>by simpa using hvs.2 j h1 (by grind)) blk.ty none;have hst:=run_storeCells_at P l.blk (l.base+off*i.size) el vs.toList 0 cur w hw (by grind) fC;rw [Bo] at hst;rw [hrl,fS,<-c2] at eI gJ;refine ⟨ρ,.int .i64 (Nat.min m len:Nat),w.setRow l.blk (cur.toList.take (l.base+off*i.size)++vs.toList++cur.toList.drop (l.base+off*i.size+vs.toList.length)).toArray,?_,.int _ _,?_,?_⟩
        .have hl2:=eK w;simp [Builtin.copy_,run_underlying hu,eK,Yz hi,gH,goInt,hst,-Array.length_toList,-List.append_assoc]
        .rw [m2,n2];have:=eI.setArr ⟨A.sz,A.n,.flat (Ur A.get off (Nat.min m len) g)⟩ gJ rfl gG (by rw [k2];exact c1);exact this
        grind [Ev.ofWrite]
       .have e0:Nat.min m 0=0:=Nat.min_zero m;obtain ⟨n1,n3⟩:=nothing e0;refine ⟨ρ,.int .i64 (Nat.min m 0:Nat),w,?_,.int _ _,n1,n3⟩;rw [e0] at gH hvs;have hv0:vs= #[]:=by
         have:vs.size=0:=by rw [<-hvs.1];simp [rows]
         grind
        subst hv0;cases p with
        | none=>simp [Builtin.copy_,run_underlying hu,eK,Yz hi,gH,goInt]
        | some a=>simp [Builtin.copy_,run_underlying hu,eK,Yz hi,gH,goInt,storeCells]
      .cases ha
     .cases ha
    .cases ha
 .cases ha
theorem x7u {st st':St} {w:World} (h:CH ρ st.mem st.next w) (floor:Nat) {ts:Array TypeId} {type:TypeId} {xs:zy} {us:Array Value} {v:CA} (ha:Mj P floor st ts.toList xs=some (v,st')) (hx:Vf (VRel ρ) xs us.toList):
  ∃ρ' u w',(Builtin.clear_ ts type us).run P w=.ok u w'/\Dg ρ floor st st' v w ρ' u w'/\st'.env=st.env/\st'.ob=st.ob:=by
 obtain ⟨ts⟩:=ts;obtain ⟨us⟩:=us;simp only at ha hx;unfold Mj at ha;have unit:VRel ρ (.tup []) (.tuple #[]):=.tup [] #[] rfl fun i h1 _=>by simp at h1
 split at ha
 .rename_i t _ d _;cases hx with
  | @cons _ ud _ _ hd _=>
   split at ha
   .rename_i e hu;split at ha
    .rename_i i zero hi hz;obtain ⟨i2,z,hi2,_,hzr,hzv⟩:=We (ρ:=ρ) hz;split at ha
     .cases hd;simp only [Ae,Ad] at ha;obtain ⟨rfl,rfl⟩:=ha;exact ⟨ρ,.tuple #[],w,by simp [Builtin.clear_,run_underlying hu],⟨unit,h,Ev.refl _ _ _ _ _ h.dom⟩,rfl,rfl⟩
     .rename_i b off len cap;cases hd with
      | sl _ _ _ _ l c hρ eT hlc=>
       rcases (by cases hl0:Nat.beq len 0 with
         | true=>rw [hl0] at ha;exact .inl ⟨rfl,ha⟩
         | false=>rw [hl0] at ha;exact .inr ⟨rfl,ha⟩:(Nat.beq len 0=true/\_)\/(Nat.beq len 0=false/\_)) with ⟨hl0,ha⟩ | ⟨hl0,ha⟩
       .have hl0:=Ai hl0;subst hl0;simp only [Ab,Ae,Ad] at ha;obtain ⟨rfl,rfl⟩:=ha;exact ⟨ρ,.tuple #[],w,by simp [Builtin.clear_,run_underlying hu],⟨unit,h,Ev.refl _ _ _ _ _ h.dom⟩,rfl,rfl⟩
       .obtain ⟨hc,ha⟩:=Qi ha;simp only [Ac] at hc;obtain ⟨⟨hzl,hzs⟩,hfl⟩:=hc;have hzl:=Ai hzl;have hfl:=Ak hfl;split at ha
        .rename_i blk hm;obtain ⟨eW,ha⟩:=Qi ha;simp only [Ac,Bh] at eW;obtain ⟨hno,eW⟩:=eW;have eW:=Ak eW;simp only [Ae,Ad] at ha;obtain ⟨rfl,rfl⟩:=ha;have hrl:(DI len zero).length =len*i.size:=(by rw [S3,hzl]);have fT:Uy ρ (DI len zero) (Builtin.zeroCells z.cells len):=RM hzr len (len*z.cells.size) (by rw [hzr.1]);have fC: ∀v∈(Builtin.zeroCells z.cells len).toList,v.oneCell'=true:=VRel.cells_oneCell fT (by
          grind [DI])
         obtain ⟨cur,el,hw,hcsz,eI⟩:=h.write hρ hm (off:=off) (cs:=DI len zero) (vs:=(Builtin.zeroCells z.cells len).toList) hno (by simpa using fT.1.symm) (by grind) (fun j h1 h2=>by simpa using fT.2 j h1 (by grind));have hst:=run_storeCells_at P l.blk (l.base+off) el (Builtin.zeroCells z.cells len).toList 0 cur w hw (by grind) fC;rw [Bo] at hst;have hne:len≠0:=fun e=>by simp_all
         refine ⟨ρ,.tuple #[],w.setRow l.blk (cur.toList.take (l.base+off)++(Builtin.zeroCells z.cells len).toList ++cur.toList.drop (l.base+off+(Builtin.zeroCells z.cells len).toList.length)).toArray,?_,⟨unit,?_,Ev.ofWrite h hρ hfl _ _⟩,rfl,rfl⟩;all_goals simp_all [Builtin.clear_,run_underlying,St.withMem]
        .cases ha
     .cases ha
    .cases ha
   .cases ha
 .cases ha
end
section
variable {P:Program} {ρ:CF}
structure Xd (floor:Nat) (st st':St):Prop where
 nxt:st.next<=st'.next
 bd:(∀b,st.next<=b->Yi st.mem b=none)-> ∀b,st'.next<=b->Yi st'.mem b=none
 low:floor<=st.next-> ∀b,b<floor->Yi st'.mem b=Yi st.mem b
 ob:st'.ob=true->st.ob=true
theorem Xd.refl (floor:Nat) (st:St):Xd floor st st:=⟨Aq _,fun h=>h,fun _ _ _=>rfl,fun h=>h⟩
theorem Xd.trans {floor:Nat} {a b c:St} (h:Xd floor a b) (k:Xd floor b c):Xd floor a c:=
 ⟨AI h.nxt k.nxt,fun x=>k.bd (h.bd x),fun x d hd=>(k.low (AI x h.nxt) d hd).trans (h.low x d hd),fun x=>h.ob (k.ob x)⟩
theorem Xd.write {floor:Nat} (st:St) {b:Nat} {ab:CG} (o:Option CG) (hf:floor<=b) (hm:Yi st.mem b=some ab):Xd floor st (st.withMem (Wv st.mem b o)) where
 nxt:=Aq _
 bd h k hk:=by
  have hne:k≠b:=fun e=>by rw [e,] at hk;rw [h b hk] at hm;cases hm
  show Yi (Wv st.mem b o) k=none;rw [Zw _ _ hne];exact h k hk
 low _ k hk:=Zw _ _ (by omega)
 ob h:=h
theorem Xd.new {floor:Nat} (st:St) (cs:zy) (ty:TypeId):Xd floor st (Cy st cs ty) where
 nxt:=B4 _
 bd h k hk:=by
  have hk':st.next+1<=k:=hk
  show Yi (Wv st.mem st.next _) k=none
  grind [Zw]
 low hf k hk:=Zw _ _ (by omega)
 ob h:=h
def Et (R:CK):Prop:= ∀cx todo st st',R cx todo st=some st'->Xd cx.floor st st'
theorem Wu {cx:CN} {st st':St} {b:Bool} (h:st.owe cx b=some st'):st'.env=st.env/\st'.mem=st.mem/\st'.next=st.next/\(st'.ob=true->b=true/\st.ob=true):=by
 obtain ⟨env,mem,next,orc,ob⟩:=st
 grind [St.owe]
theorem SY {st st':St} {b e:Bool} (h:st.test b=(e,st')):st'.env=st.env/\st'.mem=st.mem/\st'.next=st.next/\(st'.ob=true->e=b/\st.ob=true):=by
 obtain ⟨env,mem,next,orc,ob⟩:=st;cases orc with
 | nil=>
  grind [St.test]
 | cons c r=>
  grind [St.test]
theorem Vz {cx:CN} {st st':St} {dst:Option Tmp} {v:CA} (h:st.put cx dst v=some st'):st'.mem=st.mem/\st'.next=st.next/\st'.ob=st.ob/\
  ((dst=none/\st'.env=st.env)\/ ∃d,dst=some d/\d<cx.n/\st'.env=T.set .undef st.env d v):=by
 obtain ⟨env,mem,next,orc,ob⟩:=st;cases dst with
 | none=>
  grind [St.put]
 | some d=>
  simp only [St.put] at h;cases hb:Nat.ble (d+1) cx.n with
  | false=>grind
  | true=>rw [hb,Ab] at h;obtain rfl:=Ag h;exact ⟨rfl,rfl,rfl,.inr ⟨d,rfl,Ak hb,rfl⟩⟩
theorem Xd.same {floor:Nat} {st st':St} (hm:st'.mem=st.mem) (hn:st'.next=st.next) (ho:st'.ob=true->st.ob=true):Xd floor st st':=
 ⟨by grind,fun h b hb=>by grind,fun _ b _=>by rw [hm],ho⟩
theorem Zi {α:Type} {c:Bool} {x:Option α} {y:α} (h:(bif c then x else none)=some y):c=true/\x=some y:=by grind
theorem Uk {α:Type} {c:Bool} {x z:Option α} {y:α} (h:(bif c then x else z)=some y):(c=true/\x=some y)\/(c=false/\z=some y):=by grind
theorem v2c {floor:Nat} {st st':St} {t:TypeId} {x v:CA} (h:Ml P floor st t x v=some st'):Xd floor st st'/\st'.env=st.env:=by
 unfold Ml at h;split at h
 .obtain ⟨hc,h⟩:=Zi h;simp only [Ac] at hc;split at h
  .rename_i blk hm;obtain ⟨_,h⟩:=Zi h;obtain rfl:=Ag h;exact ⟨Xd.write st _ (Ak hc.1.1.1) hm,rfl⟩
  .cases h
 .cases h
theorem w4d {cx:CN} {st st':St} {t:TypeId} {x v:CA} (h:MO P cx st t x v=some st'):Xd cx.floor st st'/\st'.env=st.env:=by
 unfold MO at h;split at h
 .obtain ⟨hc,h⟩:=Zi h;simp only [Ac] at hc;split at h
  .rename_i blk hm;split at h
   .split at h
    .rename_i rw1 st1 gB;obtain ⟨s1,s2,s3,s4⟩:=z7n gB;obtain ⟨o1,o2,o3,o4⟩:=Wu h;have a1:Xd cx.floor st st1:=Xd.same s2 s3 fun x=>(s4 x).2;exact ⟨(a1.trans (Xd.write st1 _ (Ak hc.1.1.1.1) (by rw [s2];exact hm))).trans (Xd.same o2 o3 fun x=>(o4 x).2),o1.trans s1⟩
    .cases h
   .cases h
  .cases h
 .cases h
theorem y9d {st st':St} {t:TypeId} {len:Nat} {ps:List (Nat×CA)} {v:CA} {un:Bool} (floor:Nat) (h:Ka P un st t len ps=some (v,st')):Xd floor st st'/\st'.env=st.env:=by
 unfold Ka at h;split at h
 .split at h
  .obtain ⟨_,h⟩:=Zi h;split at h
   .simp only [Ae,Ad] at h;obtain ⟨_,rfl⟩:=h;exact ⟨Xd.new st _ _,rfl⟩
   .cases h
  .cases h
 .cases h
theorem z7i {st st':St} {t:TypeId} {x y v:CA} (floor:Nat) (h:Jz P st t x y=some (v,st')):Xd floor st st'/\st'.env=st.env:=by
 unfold Jz at h;split at h
 .split at h
  .obtain ⟨_,h⟩:=Zi h;simp only [Ae,Ad] at h;obtain ⟨_,rfl⟩:=h;exact ⟨Xd.new st _ _,rfl⟩
  .cases h
 .cases h
theorem w4m {floor:Nat} {st st':St} {ts:List TypeId} {xs:zy} {v:CA} (h:GI P floor st ts xs=some (v,st')):Xd floor st st'/\st'.env=st.env:=by
 unfold GI at h;split at h
 .split at h
  .split at h
   .split at h
    .obtain ⟨_,h⟩:=Zi h;split at h
     .rcases Uk h with ⟨_,h⟩ | ⟨_,h⟩
      .grind [Xd.refl]
      .obtain ⟨_,h⟩:=Zi h;simp only [Ae,Ad] at h;obtain ⟨_,rfl⟩:=h;exact ⟨Xd.new st _ _,rfl⟩
     .split at h
      .rename_i blk hm;split at h
       .obtain ⟨_,h⟩:=Zi h;split at h
        .rcases Uk h with ⟨_,h⟩ | ⟨_,h⟩
         .obtain ⟨hc,h⟩:=Zi h;simp only [Ac] at hc;simp only [Ae,Ad] at h;obtain ⟨_,rfl⟩:=h;exact ⟨Xd.write st _ (Ak hc.1) hm,rfl⟩
         .simp only [Ae,Ad] at h;obtain ⟨_,rfl⟩:=h;exact ⟨Xd.new st _ _,rfl⟩
        .obtain ⟨hc,h⟩:=Zi h;simp only [Ac] at hc;have hf:=Ak hc.2;rcases Uk h with ⟨_,h⟩ | ⟨_,h⟩
         .simp only [Ae,Ad] at h;obtain ⟨_,rfl⟩:=h;exact ⟨Xd.write st _ hf hm,rfl⟩
         .obtain ⟨_,h⟩:=Zi h;simp only [Ae,Ad] at h;obtain ⟨_,rfl⟩:=h;exact ⟨(Xd.write st none hf hm).trans (Xd.new _ _ _),rfl⟩
       .cases h
      .cases h
     .cases h
    .cases h
   .cases h
  .cases h
 .cases h
theorem Xd.put {floor:Nat} (st:St) (cs:Option CG) {st':St} (hm:st'.mem=Wv st.mem st.next cs) (hn:st'.next=st.next+1) (ho:st'.ob=true->st.ob=true):Xd floor st st' where
 nxt:=by grind
 bd h k hk:=by
  grind [Zw]
 low hf k hk:=by grind [Zw]
 ob:=ho
theorem y8x {cx:CN} {st st':St} {t:TypeId} {x y v:CA} (h:Kg P cx st t x y=some (v,st')):Xd cx.floor st st'/\st'.env=st.env:=by
 unfold Kg at h;split at h
 .split at h
  .obtain ⟨_,h⟩:=Zi h;simp only [Ar,Ad] at h;obtain ⟨_,h1,_,rfl⟩:=h;obtain ⟨o1,o2,o3,o4⟩:=Wu h1;exact ⟨Xd.put st _ o2 (o3.trans rfl) fun x=>(o4 x).2,o1⟩
  .cases h
 .cases h
theorem x8a {cx:CN} {st st':St} {ts:List TypeId} {xs:zy} {v:CA} (h:Ma P cx st ts xs=some (v,st')):Xd cx.floor st st'/\st'.env=st.env:=by
 unfold Ma at h;split at h
 .split at h
  .split at h
   .cases h
   .split at h
    .split at h
     .rename_i hm;split at h
      .obtain ⟨hc,h⟩:=Zi h;simp only [Ac] at hc;simp only [Ar,Ad] at h;obtain ⟨_,h1,_,rfl⟩:=h;obtain ⟨o1,o2,o3,o4⟩:=Wu h1;exact ⟨(Xd.write st none (Ak hc.1.2) hm).trans (Xd.put (st.withMem _) _ o2 (o3.trans rfl) fun x=>(o4 x).2),o1⟩
      .cases h
     .cases h
    .cases h
  .cases h
 .cases h
theorem u4q {floor:Nat} {st:St} {sz len:Nat} {x:CA} {b:Option Nat} {get:Nat->zy} {o:Bool} (ht:Q4 st.mem sz x=some (b,len,get,o)) (hf:v7z floor b=true):Xd floor st (st.withMem (NK st.mem b)):=by
 cases b with
 | none=>exact Xd.refl _ _
 | some b=>
  have hm: ∃ab,Yi st.mem b=some ab:=by
   unfold Q4 at ht
   grind
  obtain ⟨ab,hm⟩:=hm;exact Xd.write st none (Ak hf) hm
theorem x7z {cx:CN} {st st':St} {ts:List TypeId} {xs:zy} {v:CA} (h:HP P cx st ts xs=some (v,st')):Xd cx.floor st st'/\st'.env=st.env:=by
 unfold HP at h;split at h
 .split at h
  .split at h
   .split at h
    .rename_i ht _;obtain ⟨hc,h⟩:=Zi h;simp only [Ac] at hc;simp only [Ar,Ad] at h;obtain ⟨_,h1,_,rfl⟩:=h;obtain ⟨o1,o2,o3,o4⟩:=Wu h1;exact ⟨(u4q ht hc.2).trans (Xd.put (st.withMem _) _ o2 (o3.trans rfl) fun x=>(o4 x).2),o1⟩
    .cases h
   .cases h
  .cases h
 .cases h
theorem x8b {cx:CN} {st st':St} {ts:List TypeId} {xs:zy} {v:CA} (h:JA P cx st ts xs=some (v,st')):Xd cx.floor st st'/\st'.env=st.env:=by
 unfold JA at h;rcases Uk h with ⟨_,h⟩ | ⟨_,h⟩
 .cases h
 rcases Uk h with ⟨_,h⟩ | ⟨_,h⟩;all_goals grind [x7z,x8a,w4m]
theorem v9u {floor:Nat} {st st':St} {ts:List TypeId} {xs:zy} {v:CA} (h:ND P floor st ts xs=some (v,st')):Xd floor st st'/\st'.env=st.env:=by
 unfold ND at h;split at h
 .split at h
  .split at h
   .split at h
    .obtain ⟨_,h⟩:=Zi h;split at h
     .grind [Xd.refl]
     .obtain ⟨_,h⟩:=Zi h
      grind [Xd.refl]
     .dsimp only at h;split at h
      .rename_i blk hm;obtain ⟨hc,h⟩:=Zi h;simp only [Ac] at hc;simp only [Ae,Ad] at h;obtain ⟨_,rfl⟩:=h;exact ⟨Xd.write st _ (Ak hc.2.1) hm,rfl⟩
      .cases h
     .cases h
    .cases h
   .cases h
  .cases h
 .cases h
theorem v2h {floor:Nat} {st st':St} {ts:List TypeId} {xs:zy} {v:CA} (h:Mj P floor st ts xs=some (v,st')):Xd floor st st'/\st'.env=st.env:=by
 unfold Mj at h;split at h
 .split at h
  .split at h
   .split at h
    .grind [Xd.refl]
    .rcases Uk h with ⟨_,h⟩ | ⟨_,h⟩
     .grind [Xd.refl]
     .obtain ⟨hc,h⟩:=Zi h;simp only [Ac] at hc;split at h
      .rename_i blk hm;obtain ⟨_,h⟩:=Zi h;simp only [Ae,Ad] at h;obtain ⟨_,rfl⟩:=h;exact ⟨Xd.write st _ (Ak hc.2) hm,rfl⟩
      .cases h
    .cases h
   .cases h
  .cases h
 .cases h
theorem x7v {S:CC} {R:CK} (hR:Et R) {lift:Bool} {f:FuncId} {args:zy} {cx:CN} {st st':St} {v:CA} (h:Rj P S R lift f args cx st=some (v,st')):
  (Xd cx.floor st st'/\(lift=true-> ∀b,b<st.next->I0 S f args≠some b->Yi st'.mem b=Yi st.mem b))/\st'.env=st.env:=by
 unfold Rj at h;split at h
 .rcases Uk h with ⟨_,h⟩ | ⟨_,h⟩
  .split at h
   .obtain ⟨_,h⟩:=Zi h;simp only [Ar,Ad] at h
    grind [Wu,Xd.same]
   .cases h
  .split at h;split at h
   .obtain ⟨_,h⟩:=Zi h;simp only [Ar,Ad] at h
    grind [Wu,Xd.same]
   .cases h
 .split at h
  .rename_i v0 b blk o _;split at h
   .rename_i ab hm;obtain ⟨hc,h⟩:=Zi h;simp only [Ac,Bh] at hc;simp only [Ar,Ad] at h;obtain ⟨st1,h1,_,rfl⟩:=h;obtain ⟨e1,e2,e3,e4⟩:=Wu h1;exact ⟨⟨(Xd.write st (some blk) (Ak hc.2) hm).trans (Xd.same e2 e3 fun x=>(e4 x).2),fun hl=>by grind⟩,e1⟩
   .cases h
  .cases h
 .rename_i ty0 F hF;split at h
  .rename_i b sz n sz' r;split at h
   .rename_i cells ty A hm;obtain ⟨hc,h⟩:=Zi h;simp only [Ac] at hc;split at h
    .rename_i n' g o _;simp only [Ar,Ad] at h;obtain ⟨st1,h1,_,rfl⟩:=h;obtain ⟨env,mem,next,orc,ob⟩:=st;simp only at h1 hm ⊢;obtain ⟨e1,e2,e3,e4⟩:=Wu h1;simp only at e1 e2 e3 e4;have hle:=Ak hc.2.2.1;refine ⟨⟨⟨?_,fun hb k hk=> ?_,fun hf k hk=> ?_,fun x=>(e4 x).2⟩,fun _ k hk hn=> ?_⟩,e1⟩;all_goals grind [Zw,I0]
    .cases h
   .cases h
  .cases h
 .split at h
  .split at h
   .split at h
    .rename_i st2 hr;split at h
     .simp only [Ae,Ad] at h;obtain ⟨_,rfl⟩:=h;have q:=hR _ _ _ _ hr;refine ⟨?_,rfl⟩;cases lift with
      | false=>exact ⟨⟨q.nxt,q.bd,q.low,q.ob⟩,fun x=>by cases x⟩
      | true=>refine ⟨⟨q.nxt,q.bd,fun hf b hb=>q.low (Aq _) b (AZ hb hf),q.ob⟩,fun _ b hb _=>q.low (Aq _) b hb⟩
     .cases h
    .cases h
   .cases h
  .cases h
theorem v2e {cx:CN} {st st':St} {ts:List TypeId} {b sz off len:Nat} {x v:CA} (h:JJ P cx st ts b sz off len x=some (v,st')):Xd cx.floor st st'/\st'.env=st.env:=by
 unfold JJ at h;split at h
 .split at h
  .split at h
   .rename_i hm;split at h
    .obtain ⟨hc,h⟩:=Zi h;simp only [Ac] at hc;simp only [Ar,Ad] at h;obtain ⟨_,h1,_,rfl⟩:=h;obtain ⟨o1,o2,o3,o4⟩:=Wu h1;exact ⟨(Xd.write st _ (Ak hc.1) hm).trans (Xd.same o2 o3 fun x=>(o4 x).2),o1⟩
    .cases h
   .cases h
  .cases h
 .cases h
theorem v2f {cx:CN} {st st':St} {ts:List TypeId} {xs:zy} {v:CA} (h:RS P cx st ts xs=some (v,st')):Xd cx.floor st st'/\st'.env=st.env:=by
 unfold RS at h
 grind [v2e,v9u]
theorem y9a {S:CC} {R:CK} (hR:Et R) {lift:Bool} {op:Op} {cx:CN} {st st':St} {v:CA} (h:Vu P S R lift op cx st=some (v,st')):Xd cx.floor st st'/\st'.env=st.env:=by
 unfold Vu at h;split at h
 .split at h
  .rename_i hl;obtain ⟨l1,l2,l3,l4⟩:=WX hl;simp only [Ar,Ad] at h
   grind [Wu,Xd.same]
  .cases h
 .simp only [Ar,Ad] at h;obtain ⟨_,_,_,rfl⟩:=h;exact ⟨Xd.new st _ _,rfl⟩
 .obtain ⟨_,h⟩:=Zi h;simp only [Ae,Ad] at h;obtain ⟨_,rfl⟩:=h;exact ⟨Xd.new st _ _,rfl⟩
 .exact y9d _ h
 .split at h
  .simp only [Ar,Ad] at h
   grind [w4d]
  .simp only [Ar,Ad] at h
   grind [v2c]
 .rcases Uk h with ⟨_,h⟩ | ⟨_,h⟩
  .rcases Uk h with ⟨_,h⟩ | ⟨_,h⟩
   .have q:=z7i (st:=st.dropO) cx.floor h;exact ⟨⟨q.1.nxt,q.1.bd,q.1.low,q.1.ob⟩,q.2⟩
   .have q:=y8x (st:=st.dropO) h;exact ⟨⟨q.1.nxt,q.1.bd,q.1.low,q.1.ob⟩,q.2⟩
  .exact z7i _ h
 all_goals grind [x8b,v2f,v2h,x7v]
def Dn (x:Nat) (st st':St):Prop:=Yi st'.mem x=Yi st.mem x
theorem Kc {x b:Nat} (st:St) (o:Option CG) (hn:b≠x):Dn x st (st.withMem (Wv st.mem b o)):=Zw _ _ fun e=>hn e.symm
theorem Q2 {x:Nat} (st:St) (cs:zy) (ty:TypeId) (hx:x<st.next):Dn x st (Cy st cs ty):=Zw _ _ (Bp hx)
theorem w4c {x:Nat} {floor:Nat} {st st':St} {t:TypeId} {a v:CA} (h:Ml P floor st t a v=some st') (hn: ∀off,a≠ .ptr x off):Dn x st st':=by
 unfold Ml at h;split at h
 .rename_i b off _ _;obtain ⟨_,h⟩:=Zi h;split at h
  .obtain ⟨_,h⟩:=Zi h
   grind [Kc]
  .cases h
 .cases h
theorem x7p {x:Nat} {cx:CN} {st st':St} {t:TypeId} {a v:CA} (h:MO P cx st t a v=some st') (hn: ∀sz r fo,a≠ .epa x sz r fo):Dn x st st':=by
 unfold MO at h;split at h
 .rename_i b sz r fo _ _;obtain ⟨_,h⟩:=Zi h;split at h
  .split at h
   .split at h
    .rename_i rw1 st1 gB;obtain ⟨_,s2,_,_⟩:=z7n gB;obtain ⟨_,o2,_,_⟩:=Wu h;unfold Dn;rw [o2,<-s2];exact Kc st1 _ fun e=>hn sz r fo (by rw [e])
    .cases h
   .cases h
  .cases h
 .cases h
theorem y4g {x:Nat} {st st':St} {t:TypeId} {len:Nat} {ps:List (Nat×CA)} {v:CA} {un:Bool} (hx:x<st.next) (h:Ka P un st t len ps=some (v,st')):Dn x st st':=by
 unfold Ka at h;split at h
 .split at h
  .obtain ⟨_,h⟩:=Zi h
   grind [Q2]
  .cases h
 .cases h
theorem z5t {x:Nat} {st st':St} {t:TypeId} {l c v:CA} (hx:x<st.next) (h:Jz P st t l c=some (v,st')):Dn x st st':=by
 unfold Jz at h;split at h
 .split at h
  .obtain ⟨_,h⟩:=Zi h
   grind [Q2]
  .cases h
 .cases h
theorem x7y {x floor:Nat} {st st':St} {ts:List TypeId} {xs:zy} {v:CA} (hx:x<st.next) (h:GI P floor st ts xs=some (v,st')) (hn: ∀off len cap r,xs≠ .sl x off len cap::r):Dn x st st':=by
 unfold GI at h;split at h
 .split at h
  .split at h
   .split at h
    .obtain ⟨_,h⟩:=Zi h;split at h
     .rcases Uk h with ⟨_,h⟩ | ⟨_,h⟩
      .simp only [Ae,Ad] at h;obtain ⟨_,rfl⟩:=h;rfl
      .obtain ⟨_,h⟩:=Zi h
       grind [Q2]
     .have hb:=fun e=>hn _ _ _ _ (Av (fun b=>CA.sl b _ _ _::_) e);split at h
      .rename_i blk hm;split at h
       .obtain ⟨_,h⟩:=Zi h;split at h
        .rcases Uk h with ⟨_,h⟩ | ⟨_,h⟩
         .obtain ⟨hc,h⟩:=Zi h
          grind [Kc]
         grind [Q2]
        .obtain ⟨hc,h⟩:=Zi h;rcases Uk h with ⟨_,h⟩ | ⟨_,h⟩
         .grind [Kc]
         .obtain ⟨_,h⟩:=Zi h;simp only [Ae,Ad] at h;obtain ⟨_,rfl⟩:=h;exact (Q2 (st.withMem (Wv st.mem _ none)) _ _ hx).trans (Kc st none hb)
       .cases h
      .cases h
     .cases h
    .cases h
   .cases h
  .cases h
 .cases h
theorem y4d {x:Nat} {cx:CN} {st st':St} {t:TypeId} {l c v:CA} (hx:x<st.next) (h:Kg P cx st t l c=some (v,st')):Dn x st st':=by
 unfold Kg at h;split at h
 .split at h
  .obtain ⟨_,h⟩:=Zi h;simp only [Ar,Ad] at h;obtain ⟨_,h1,_,rfl⟩:=h;obtain ⟨_,o2,_,_⟩:=Wu h1
   grind [Dn,Zw]
  .cases h
 .cases h
theorem x4r {x:Nat} {cx:CN} {st st':St} {ts:List TypeId} {xs:zy} {v:CA} (hx:x<st.next) (h:Ma P cx st ts xs=some (v,st')) (hn: ∀sz off len cap r,xs≠ .sla x sz off len cap::r):Dn x st st':=by
 unfold Ma at h;split at h
 .have hb:=fun e=>hn _ _ _ _ _ (Av (fun b=>CA.sla b _ _ _ _::_) e);split at h
  .split at h
   .cases h
   .split at h
    .split at h
     .split at h
      .obtain ⟨hc,h⟩:=Zi h;simp only [Ar,Ad] at h;obtain ⟨_,h1,_,rfl⟩:=h;obtain ⟨_,o2,_,_⟩:=Wu h1
       grind [Dn,Zw]
      .cases h
     .cases h
    .cases h
  .cases h
 .cases h
theorem y9n {m:CI} {sz len b:Nat} {x:CA} {get:Nat->zy} {o:Bool} (ht:Q4 m sz x=some (some b,len,get,o)):(∃off len cap,x=.sl b off len cap)\/ ∃sz off len cap,x=.sla b sz off len cap:=by
 unfold Q4 at ht
 grind
theorem x4q {x:Nat} {cx:CN} {st st':St} {ts:List TypeId} {xs:zy} {v:CA} (hx:x<st.next) (h:HP P cx st ts xs=some (v,st')) (hn: ∀off len cap r,xs≠ .sl x off len cap::r) (hn2: ∀sz off len cap r,xs≠ .sla x sz off len cap::r):Dn x st st':=by
 unfold HP at h;split at h
 .split at h
  .split at h
   .split at h
    .rename_i b len get o1 n g o2 ht _;obtain ⟨hc,h⟩:=Zi h;simp only [Ar,Ad] at h;obtain ⟨_,h1,_,rfl⟩:=h;obtain ⟨_,o2,_,_⟩:=Wu h1;unfold Dn;rw [o2];show Yi (Wv (NK st.mem b) st.next _) x=_;rw [Zw _ _ (Bp hx)];cases b with
     | none=>rfl
     | some b=>
      refine Zw _ _ fun e=> ?_
      grind [y9n]
    .cases h
   .cases h
  .cases h
 .cases h
theorem x4s {x:Nat} {cx:CN} {st st':St} {ts:List TypeId} {xs:zy} {v:CA} (hx:x<st.next) (h:JA P cx st ts xs=some (v,st')) (hn: ∀off len cap r,xs≠ .sl x off len cap::r) (hn2: ∀sz off len cap r,xs≠ .sla x sz off len cap::r):Dn x st st':=by
 unfold JA at h;rcases Uk h with ⟨_,h⟩ | ⟨_,h⟩
 .cases h
 rcases Uk h with ⟨_,h⟩ | ⟨_,h⟩;all_goals grind [x4q,x4r,x7y]
theorem v2d {x floor:Nat} {st st':St} {ts:List TypeId} {xs:zy} {v:CA} (h:ND P floor st ts xs=some (v,st')) (hn: ∀off len cap r,xs≠ .sl x off len cap::r):Dn x st st':=by
 unfold ND at h;split at h
 .split at h
  .split at h
   .split at h
    .obtain ⟨_,h⟩:=Zi h;split at h
     .simp only [Ae,Ad] at h;obtain ⟨_,rfl⟩:=h;rfl
     .obtain ⟨_,h⟩:=Zi h;simp only [Ae,Ad] at h;obtain ⟨_,rfl⟩:=h;rfl
     .have hb:=fun e=>hn _ _ _ _ (Av (fun b=>CA.sl b _ _ _::_) e);dsimp only at h;split at h
      .obtain ⟨hc,h⟩:=Zi h
       grind [Kc]
      .cases h
     .cases h
    .cases h
   .cases h
  .cases h
 .cases h
theorem w4h {x:Nat} {cx:CN} {st st':St} {ts:List TypeId} {b sz off len:Nat} {y v:CA} (h:JJ P cx st ts b sz off len y=some (v,st')) (hn:b≠x):Dn x st st':=by
 unfold JJ at h;split at h
 .split at h
  .split at h
   .split at h
    .obtain ⟨_,h⟩:=Zi h;simp only [Ar,Ad] at h;obtain ⟨_,h1,_,rfl⟩:=h;obtain ⟨_,o2,_,_⟩:=Wu h1;show Yi _ x=_;rw [o2];exact Kc st _ hn
    .cases h
   .cases h
  .cases h
 .cases h
theorem w4i {x:Nat} {cx:CN} {st st':St} {ts:List TypeId} {xs:zy} {v:CA} (h:RS P cx st ts xs=some (v,st')) (hn: ∀off len cap r,xs≠ .sl x off len cap::r) (hn2: ∀sz off len cap r,xs≠ .sla x sz off len cap::r) (hn3: ∀sz off len r,xs≠ .slv x sz off len::r):Dn x st st':=by
 unfold RS at h
 grind [w4h,v2d]
theorem w4k {x floor:Nat} {st st':St} {ts:List TypeId} {xs:zy} {v:CA} (h:Mj P floor st ts xs=some (v,st')) (hn: ∀off len cap r,xs≠ .sl x off len cap::r):Dn x st st':=by
 unfold Mj at h;split at h
 .split at h
  .split at h
   .split at h
    .simp only [Ae,Ad] at h;obtain ⟨_,rfl⟩:=h;rfl
    .have hb:=fun e=>hn _ _ _ _ (Av (fun b=>CA.sl b _ _ _::_) e);rcases Uk h with ⟨_,h⟩ | ⟨_,h⟩
     .simp only [Ae,Ad] at h;obtain ⟨_,rfl⟩:=h;rfl
     .obtain ⟨hc,h⟩:=Zi h;split at h
      .obtain ⟨_,h⟩:=Zi h
       grind [Kc]
      .cases h
    .cases h
   .cases h
  .cases h
 .cases h
theorem x7t {S:CC} {R:CK} {lift:Bool} {op:Op} {cx:CN} {st st':St} {v:CA} {x:Nat} (hk:Xa op=.chain) (hx:x<st.next) (hn:EH op st.eval≠some x) (h:Vu P S R lift op cx st=some (v,st')):Dn x st st':=by
 cases op with
 | store t a y=>
  simp only [Vu] at h;split at h
  .rename_i b sz r fo hb;simp only [Ar,Ad] at h
   grind [x7p,EH]
  .simp only [Ar,Ad] at h
   grind [w4c,EH]
 | box t y=>
  unfold Vu at h;simp only at h;obtain ⟨_,h⟩:=Zi h
  grind [Q2]
 | buildSlice t n ps=>exact y4g hx h
 | makeSlice t l c=>
  unfold Vu at h;simp only at h;rcases Uk h with ⟨_,h⟩ | ⟨_,h⟩
  .rcases Uk h with ⟨_,h⟩ | ⟨_,h⟩
   .exact (z5t (st:=st.dropO) hx h)
   .exact (y4d (st:=st.dropO) hx h)
  .exact z5t hx h
 | call c=>
  obtain ⟨callee,args,argTypes⟩:=c;cases callee with
  | builtin b=>
   cases b <;> first
    | (simp [Xa] at hk;done)
    | exact x4s hx h (fun off len cap r e=>hn (by simp only [EH,e])) (fun sz off len cap r e=>hn (by simp only [EH,e]))
    | exact w4i h (fun off len cap r e=>hn (by simp only [EH,e])) (fun sz off len cap r e=>hn (by simp only [EH,e])) (fun sz off len r e=>hn (by simp only [EH,e]))
    | exact w4k h fun off len cap r e=>hn (by simp only [EH,e])
  | value f=>simp [Xa] at hk
  | invoke r m=>simp [Xa] at hk
 | _=>simp [Xa] at hk
theorem Jv : ∀(d:Nat) (a:CA) (u:Value),pf d a=true->VRel ρ a u->VRel ρ.bare a u
 | 0,_,_,h,_=>by simp [pf] at h
 | d+1,a,u,h,hr=>by
  cases hr with
  | undef=>simp [pf] at h
  | bool=>exact .bool _
  | int=>exact .int _ _
  | str=>exact .str _
  | mapr=>simp [pf] at h
  | ifbt=>exact .ifbt
  | ifbf=>exact .ifbf _ _
  | agg cs vs hl hh=>simp only [pf,As] at h;exact .agg cs vs hl fun i h1 h2=>Jv d _ _ (h _ (AU h1)) (hh i h1 h2)
  | tup cs vs hl hh=>simp only [pf,As] at h;exact .tup cs vs hl fun i h1 h2=>Jv d _ _ (h _ (AU h1)) (hh i h1 h2)
  | ptr=>simp [pf] at h
  | nilp=>exact .nilp
  | sl=>simp [pf] at h
  | sla=>simp [pf] at h
  | slan=>simp [pf] at h
  | slv=>simp [pf] at h
  | slve=>simp [pf] at h
  | slvn=>simp [pf] at h
  | nnl=>simp [pf] at h
  | epa=>simp [pf] at h
  | nils=>exact .nils
  | fn f cs vs hl hh=>obtain rfl:cs=[]:=List.isEmpty_iff.1 h;exact .fn f [] vs hl fun i h1=>absurd h1 (AD _)
  | nilf=>exact .nilf
  | fnb=>simp [pf] at h
  | yld=>simp [pf] at h
  | ifc=>simp [pf] at h
  | nili=>exact .nili
  | dat len get blk base sz cap val eT hsz hv hh=>exact .dat len get blk base sz cap val eT hsz hv hh
  | datn get=>exact .datn get
  | datz get a c=>exact .datz get a c
  | dptr cs blk base val hv hh=>exact .dptr cs blk base val hv hh
def Rh (P:Program) (f:FuncId) (F:zy->Option (CA×Bool)):Prop:=
 ∀args v,F args=some (v,true)-> ∀(H:EK) (vals:Array Value) (w:World),Vf (VRel (rhoOf H)) args vals.toList->(∀k o,H k=some o->w.heap[k]? =some o)->Glob H->
  Calls P f vals w fun e w'=> ∃H' u,(∀k o,H k=some o->H' k=some o)/\(∀k o,H' k=some o->w'.heap[k]? =some o)/\(∀k,k<w.heap.size->H' k=H k)/\e=.returned u/\VRel (rhoOf H') v u/\RowKit.Below w.heap.size w w'
def Gt (P:Program) (f:FuncId) (F:zy->CI->Option (CA×Nat×CG×Bool)):Prop:=
 ∀args mem v b blk,F args mem=some (v,b,blk,true)->(Yi mem b).isSome =true-> ∀(ρ:CF) (next floor:Nat) (vals:Array Value) (w:World),floor<=b->Vf (VRel ρ) args vals.toList->CH ρ mem next w->
  Calls P f vals w fun e w'=> ∃u,e=.returned u/\VRel ρ v u/\CH ρ (Wv mem b (some blk)) next w'/\Ev ρ ρ floor mem next (Wv mem b (some blk)) next w w'
def J1 (H:EK) (l:Option CZ):CF:=⟨fun b=>if b=0 then l else none,H,fun _=>none⟩
def F1 (ty:TypeId) (sz n:Nat) (get:Nat->zy):CI:=Wv .leaf 0 (some ⟨rows n get,ty,some ⟨sz,n,.flat get⟩⟩)
def ML (P:Program) (f:FuncId) (ty:TypeId) (F:Nat->(Nat->zy)->zy->Option (Nat×(Nat->zy)×Bool)):Prop:=
 ∀ (sz n:Nat) (get:Nat->zy) (r:zy) (n':Nat) (g:Nat->zy),F n get r=some (n',g,true)->La sz n get=true->La sz n' g=true->1<=sz-> ∀(H:EK) (l:Option CZ) (vals:Array Value) (w:World),
  Vf (VRel (J1 H l)) (.sla 0 sz 0 n (.un sz)::r) vals.toList->CH (J1 H l) (F1 ty sz n get) 1 w->(∀k o,w.heap[k]? =some o->(∃l0,l=some l0/\l0.blk=k)\/H k=some o)->
  Calls P f vals w fun e w'=> ∃ρ' u m' nx b,e=.returned u/\VRel ρ' (.sla b sz 0 n' (.un sz)) u/\Yi m' b=some ⟨rows n' g,ty,some ⟨sz,n',.flat g⟩⟩/\CH ρ' m' nx w'/\
   (∀k o,H k=some o->ρ'.fz k=some o)/\w.heap.size<=w'.heap.size/\w'.os=w.os/\w'.tape=w.tape/\w'.output=w.output
def QM (P:Program) (f:FuncId):O8->Prop
 | .val F=>Rh P f F
 | .eff F=>Gt P f F
 | .gro ty F=>ML P f ty F
def Zu (P:Program) (S:CC):Prop:=
 ∀f F,S f=some F->(∃fn,P.funcs[f]? =some fn/\fn.body.isSome=true)/\QM P f F
def j9q (P:Program):Prop:=(P.funcs[Of]?).isSome =true-> ∀(b:Nat) (p v:Value) (w:World) (l:zw),l.length<=9223372036854775807->w.heap[b]? =some (.cells #[p,v] D2 (0,0))->
 ((v=.slice none 0 0/\l=[])\/ ∃g o c cur,v=.slice (some ⟨g,o,none⟩) l.length c/\l.length<=c/\w.heap[g]? =some (.cells cur Pz (0,0))/\(l≠ []->o+l.length<=cur.size)/\ ∀j x,l[j]? =some x->cur[o+j]? =some (.int .u8 x.toNat))->
 Calls P Of #[.pointer (some ⟨b,0,none⟩)] w fun e w'=>e=.returned (.string ⟨l.toArray⟩)/\w.heap.size<=w'.heap.size/\
  (∀k o,w.heap[k]? =some o->(∀g o n c,v=.slice (some ⟨g,o,none⟩) n c->g≠k)->w'.heap[k]? =some o)/\w'.os=w.os/\w'.tape=w.tape/\w'.output=w.output
def EL (P:Program):Prop:=(∀(f:FuncId) (fn:Func),P.funcs[f]? =some fn->fn.body.isSome=true->(fn.name == "runtime.NumGoroutine")=false)/\j9q P
def Gd (P:Program) (R:CK):Prop:=
 ∀ cx todo st st',cx.floor<=st.next->R cx todo st=some st'->st'.ob=true-> ∀(ρ:CF) (a:Act) (w:World) (b:Frame) (cs:List Frame),a.defers=[]->Vx ρ st.env cx.n a.tmps->CH ρ st.mem st.next w->
  ∃ρ' a' todo' w',Steps P (lone (b.at a todo) cs w) (lone {b.at a' todo' with mode:=.returning} cs w')/\a'.defers=[]/\Vx ρ' st'.env cx.n a'.tmps/\CH ρ' st'.mem st'.next w'/\
   Ev ρ ρ' cx.floor st.mem st.next st'.mem st'.next w w'
theorem y7y : ∀(args:zy) (i:Nat) (t:T CA) (k:Nat),T.get .undef (FO args i t) k=if i<=k/\k<i+args.length then args.getD (k - i) .undef else T.get .undef t k
 | [],i,t,k=>by rw [Az (by grind)];rfl
 | a::r,i,t,k=>by
  simp only [FO];rw [y7y r (i+1) _ k,T.get_set];by_cases h1:k=i
  .subst h1;rw [Az (by omega),AF rfl,AF (by simp)];simp
  .by_cases h2:i+1<=k/\k<i+1+r.length
   .rw [AF h2,AF (by simp;omega)];have:k - i=(k - (i+1))+1:=(by omega);rw [this];simp
   .rw [Az h2,Az h1,Az (by simp;omega)]
def TQ (tmps:Array Value):ResultVar->Sem Value
 | .tmp t=>pure (tmps.getD t undef)
 | .cell a t=>do loadVar t (<-asAddr (tmps.getD a undef))
theorem w9q (fn:Func) (tmps:Array Value):results fn tmps=(do
  let vs<-fn.results.mapM (TQ tmps)
  pure (if h:vs.size=1 then vs[0] else .tuple vs)):=by
 unfold results;have:(fun r:ResultVar=>(match r with | .tmp t=>pure (tmps.getD t undef) | .cell a t=>do loadVar t (<-asAddr (tmps.getD a undef)):Sem Value))=TQ tmps:=by
  funext r
  cases r <;> rfl
 rw [<-this];rfl
theorem x4l {st:St} {w:World} {tmps:Array Value} {n:Nat} (eP:Vx ρ st.env n tmps) (eI:CH ρ st.mem st.next w) {r:ResultVar} {v:CA} (h:YN P st r=some v):
  ∃u,VRel ρ v u/\(TQ tmps r).run P w=.ok u w:=by
 have get: ∀t,VRel ρ (st.tmp t) (tmps.getD t undef):=fun t=>eP.get t;cases r with
 | tmp t=>simp only [YN,Ae] at h;subst h;exact ⟨_,get t,rfl⟩
 | cell a t=>
  simp only [YN] at h;obtain ⟨z,hz,hr⟩:=y8y eI h (get a);refine ⟨z,hz,?_⟩;have ha:=get a;unfold TQ;simp only;generalize tmps.getD a undef=u at ha hr ⊢;unfold NE at h;split at h
  .rename_i e;rw [e] at ha;cases ha
   grind [Instr.loadAt,Instr.sureAddr,asAddr]
  .rename_i e;rw [e] at ha;cases ha
   grind [Instr.loadAt,Instr.sureAddr,asAddr]
  .cases h
theorem z7h {st:St} {w:World} {tmps:Array Value} {n:Nat} (eP:Vx ρ st.env n tmps) (eI:CH ρ st.mem st.next w): ∀{rs:List ResultVar} {vs:zy},Kk P st rs=some vs->
  ∃us,Vf (VRel ρ) vs us/\(rs.mapM (TQ tmps)).run P w=.ok us w
 | [],vs,h=>by simp only [Kk,Ae] at h;subst h;exact ⟨[],.nil,by simp⟩
 | r::rs,vs,h=>by
  unfold Kk at h;split at h
  .rename_i v vs' h1 h2;obtain rfl:=Ag h;obtain ⟨u,hu,hr⟩:=x4l eP eI h1;obtain ⟨us,hus,hrs⟩:=z7h eP eI h2;refine ⟨u::us,.cons hu hus,?_⟩;rw [List.mapM_cons,Sem.run_bind,hr];simp only [Result.andThen_ok,Sem.run_bind,hrs,Sem.run_pure]
  .cases h
theorem z3h {fn:Func} {st:St} {w:World} {tmps:Array Value} {n:Nat} (eP:Vx ρ st.env n tmps) (eI:CH ρ st.mem st.next w) {vs:zy} (h:Kk P st fn.results.toList=some vs):
  ∃u,VRel ρ (Jd vs) u/\(results fn tmps).run P w=.ok u w:=by
 obtain ⟨us,hus,hr⟩:=z7h eP eI h;refine ⟨if h:us.toArray.size=1 then us.toArray[0] else .tuple us.toArray,?_,?_⟩
 .cases hus with
  | nil=>exact .tup [] _ rfl fun i h1 _=>by simp at h1
  | cons h1 hs=>cases hs with
   | nil=>simpa [Jd] using h1
   | cons h2 hs=>have fJ:=Vf.cons h1 (Vf.cons h2 hs);have hl:=fJ.length;simp only [Jd];rw [dif_neg (by simp)];exact .tup _ _ (by grind) fun i h1 h2=>by simpa using fJ.get i h1 (by grind)
 .rw [w9q,Sem.run_bind,Array.mapM_eq_mapM_toList,Sem.run_map,hr];rfl
theorem y7x {args:zy} {vals:Array Value} (h:Vf (VRel ρ) args vals.toList) (ntmps:Nat):
  Vx ρ (FO args 0 .leaf) (Nat.max ntmps args.length) (vals++Array.replicate (ntmps - vals.size) undef):=by
 have hl:args.length=vals.size:=by simpa using h.length
 have hmax:Nat.max ntmps args.length=vals.size+(ntmps - vals.size):=by
  grind
 refine ⟨by grind,fun i=> ?_,fun i hi=> ?_⟩
 .rw [y7y];by_cases hi:i<args.length
  .rw [AF (by omega)];have h2:i<vals.toList.length:=by grind
   have:=h.get i hi h2;have e1:args.getD (i - 0) .undef =args[i]:=by simp [hi]
   have e2:(vals++Array.replicate (ntmps - vals.size) undef).getD i undef=vals.toList[i]:=by have h3:i<vals.size:=(by grind);simp [Array.getElem?_append,h3]
   grind
  .rw [Az (by omega)];exact .undef _
 .have hle:args.length<=Nat.max ntmps args.length:=Nat.le_max_right _ _;rw [y7y,Az (by omega)];rfl
theorem RA {f:FuncId} {fn:Func} (hN:EL P) (hf:P.funcs[f]? =some fn) (hb:fn.body.isSome=true) (args:Array Value) (w:World):(callFunc f args).run P w=.ok (.enter f args) w:=by
 have h1: ¬fn.name= "runtime.NumGoroutine" :=by simpa using hN.1 f fn hf hb
 have h2: ¬fn.body=none:=by grind
 simp [callFunc,hf,h1,h2]
theorem x8n {mem:CI} {next:Nat} {w:World} (h:CH ρ mem next w) {a a':CA} {o:Bool} (hv:j2b P mem a=(a',o)) (ho:o=true) {u:Value} (hr:VRel ρ a u) (hp:pf 3 a'=true):VRel (rhoOf fun k=>w.heap[k]?) a' u:=by
 subst ho;have hle:ρ.bare.le (rhoOf fun k=>w.heap[k]?):=⟨fun _ _ e=>(by cases e),fun k o e=>h.old k o e,fun _ _ e=>(by cases e)⟩
 unfold j2b at hv;split at hv
 .rename_i b sz off len cap;split at hv
  .rename_i blk hm;split at hv
   .rename_i A hA;simp only [Ad,Ac,Ao] at hv;obtain ⟨rfl,h1,h2,h3⟩:=hv;obtain rfl:=Ai h1;have h3:= @Ay _ (Classical.propDecidable _) h3;cases hr with
    | slan=>exact .datn _
    | sla _ _ _ _ _ l c hρ eT eK=>
     obtain ⟨fS,gG,eY⟩:=(h.blk b l blk hρ hm).arr A hA;obtain ⟨cur,el,hh,_⟩:=((h.blk b l blk hρ hm).rows hA).cells;refine .dat len _ l.blk (l.base+off*A.sz) A.sz c (fun i j=>(w.cell? ⟨l.blk,l.base+(off+i)*A.sz+j,none⟩).getD undef) eK (fun i hi=>eY _ (by omega)) (fun i j hi hj=> ?_) (fun i j hi hj=> ?_)
     .obtain ⟨v,e1,e2⟩:=(h.rowAt hρ hm hA (r:=off+i) (by omega)) j hj;simp only [e1,Option.getD_some];exact (Jv 6 _ _ (As.1 (h3 (off+i)) _ (AU hj)) e2).mono hle
     .obtain ⟨v,e1,e2⟩:=(h.rowAt hρ hm hA (r:=off+i) (by omega)) j (by grind);simp only [e1,Option.getD_some];refine ⟨cur,el,(0,0),hh,?_⟩
      grind [World.cell?]
   grind [pf]
  grind [pf]
 .rename_i b off len cap;split at hv
  .rename_i blk hm;split at hv
   .rename_i inf _;simp only [Ad,Ac,Bh] at hv;obtain ⟨rfl,h0,h1,h3⟩:=hv;have h1:=Ak h1;generalize inf.size=sz at h1 hp ⊢;cases hr with
    | sl _ _ _ _ l c hρ eT eK=>
     obtain ⟨cs,el,hh,_,hc⟩:=((h.blk b l blk hρ hm).at h0).cells;have hlt: ∀i,i<len->off+i*sz+sz<=blk.cells.length:=fun i hi=>by have:=AE sz (show i+1<=len by omega);rw [Nat.succ_mul] at this;omega
     have hl: ∀i,i<len->((blk.cells.drop (off+i*sz)).take sz).length =sz:=fun i hi=>by have:=hlt i hi;rw [Bt,Bz];omega
     refine .dat len _ l.blk (l.base+off) sz c (fun i j=>(cs[l.base+(off+i*sz+j)]?).getD undef) eK hl (fun i j hi hj=> ?_) (fun i j hi hj=> ?_)
     .have h4:=hlt i hi;have hj':=hj;rw [hl i hi] at hj';obtain ⟨v,e1,e2⟩:=hc (off+i*sz+j) (by omega);simp only [e1,Option.getD_some];have e3:((blk.cells.drop (off+i*sz)).take sz)[j]=blk.cells[off+i*sz+j]'(by omega):=by rw [BM,List.getElem_drop]
      rw [e3];exact (Jv 6 _ _ (As.1 h3 _ (AU _)) e2).mono hle
     .have h4:=hlt i hi;obtain ⟨v,e1,e2⟩:=hc (off+i*sz+j) (by omega);simp only [e1,Option.getD_some];refine ⟨cs,el,(0,0),hh,?_⟩;rw [<-e1]
      congr 1
      omega
   grind [pf]
  grind [pf]
 .simp only [Ad] at hv;obtain ⟨rfl,_⟩:=hv;exact (Jv 3 _ _ hp hr).mono hle
theorem x8o {mem:CI} {next:Nat} {w:World} (h:CH ρ mem next w) {az:zy} {us:List Value} (hr:Vf (VRel ρ) az us): ∀{az':zy} {o:Bool},Tl P mem az=(az',o)->o=true->az'.all (pf 3)=true->Vf (VRel (rhoOf fun k=>w.heap[k]?)) az' us:=by
 induction hr with
 | nil=>intro az' o hv _ _;simp only [Tl,Ad] at hv;obtain ⟨rfl,_⟩:=hv;exact .nil
 | @cons a b l m h1 _ ih=>intro az' o hv ho hp;unfold Tl at hv;split at hv;rename_i a1 o1 as1 q1 e1 e2;simp only [Ad] at hv;obtain ⟨rfl,rfl⟩:=hv;simp only [Ac] at ho;simp only [List.all_cons,Ac] at hp;exact .cons (x8n h e1 ho.1 h1 hp.1) (ih e2 ho.2 hp.2)
theorem w8t {σ:CF} {v:CA} {u:Value} (hs:scal v=true) (h:VRel σ v u):VRel ρ v u:=by
 cases h with
 | bool=>exact .bool _
 | int=>exact .int _ _
 | str=>exact .str _
 | ifbt=>exact .ifbt
 | ifbf=>exact .ifbf _ _
 | tup cs vs hl hh=>
  simp only [scal,As] at hs;refine .tup cs vs hl fun i h1 h2=> ?_;have k1:=hs _ (AU h1);have k2:=hh i h1 h2;generalize cs[i]=a at k1 k2;generalize vs[i]=b at k2;cases k2 with
  | undef=>exact .undef _
  | bool=>exact .bool _
  | int=>exact .int _ _
  | str=>exact .str _
  | ifbt=>exact .ifbt
  | ifbf=>exact .ifbf _ _
  | _=>simp at k1
 | _=>simp [scal] at hs
theorem u3r {sz n:Nat} {get:Nat->zy} (h:La sz n get=true): ∀i,i<n->(get i).length =sz/\(get i).all pl=true:= @Ay _ (Classical.propDecidable _) h
theorem v4u {sz n:Nat} {get:Nat->zy} (h:La sz n get=true): ∀v∈rows n get,pl v=true:=fun v hv=>by
 obtain ⟨i,hi,hv⟩:=AM.1 hv
 grind [u3r]
theorem OF {v:CA} {u:Value} {ρ':CF} (h:pl v=true) (hr:VRel ρ v u):VRel ρ' v u:=by
 cases hr <;> first | exact .bool _ | exact .int _ _ | (cases h;done)
theorem Wn.pl {w:World} {ab:CG} {l:CZ} (h:Wn ρ w ab l) (hp: ∀v∈ab.cells,pl v=true) (ρ':CF):Wn ρ' w ab l:=by
 cases h with
 | plain h=>
  obtain ⟨h0,h1,h2,h3,cs,el,h4,h5,h6⟩:=h;refine .plain ⟨h0,h1,h2,h3,cs,el,h4,h5,fun i hi=> ?_⟩
  grind [OF]
 | obj o r ty h n z=>subst h;have:=hp _ (Bc ..);cases this
theorem v7t {f:FuncId} {F:Nat->(Nat->zy)->zy->Option (Nat×(Nat->zy)×Bool)} {ty:TypeId} (hF:ML P f ty F) {floor next:Nat} {mem:CI} {b sz n:Nat} {r:zy} {cells:zy} {A:Da} (hm:Yi mem b=some ⟨cells,ty,some A⟩)
  (hA:A.sz=sz/\A.n=n) (hr:r.all (pf 3)=true) (hfl:floor<=b) (hsz:1<=sz) {n':Nat} {g:Nat->zy} (hv:F n A.get r=some (n',g,true)) (hp:La sz n A.get=true) (hp':La sz n' g=true)
  {vals:Array Value} (eN:Vf (VRel ρ) (.sla b sz 0 n (.un sz)::r) vals.toList) {w:World} (eI:CH ρ mem next w):
  Calls P f vals w fun e w'=> ∃ρ' u,e=.returned u/\VRel ρ' (.sla next sz 0 n' (.un sz)) u/\CH ρ' (Wv (Wv mem b none) next (some ⟨rows n' g,ty,some ⟨sz,n',.flat g⟩⟩)) (next+1) w'/\
   Ev ρ ρ' floor mem next (Wv (Wv mem b none) next (some ⟨rows n' g,ty,some ⟨sz,n',.flat g⟩⟩)) (next+1) w w':=by
 obtain ⟨rfl,rfl⟩:=hA;have hbn:b<next:=by
  rcases A8 b next with h | h
  .exact h
  .rw [eI.bd b h] at hm;cases hm
 let H:EK:=fun k=>if∃l,ρ b=some l/\l.blk=k then none else w.heap[k]?
 have hH: ∀k,(¬ ∃l,ρ b=some l/\l.blk=k)->H k=w.heap[k]? :=fun k hk=>Az hk;have hHs: ∀k o,H k=some o->w.heap[k]? =some o/\ ¬ ∃l,ρ b=some l/\l.blk=k:=fun k o e=>by
  by_cases hk: ∃l,ρ b=some l/\l.blk=k;all_goals grind
 have hfz: ∀k o,ρ.fz k=some o->H k=some o:=fun k o e=>by
  rw [hH k fun ⟨l,h1,h2⟩=>by
   have:=eI.sep b l h1 (by rw [hm];rfl)
   grind]
  exact eI.old k o e
 have hbare:ρ.bare.le (J1 H (ρ b)):=⟨fun _ _ e=>(by cases e),hfz,fun _ _ e=>(by cases e)⟩
 have key: ∀(n0:Nat) (u:Value),VRel ρ (.sla b A.sz 0 n0 (.un A.sz)) u->VRel (J1 H (ρ b)) (.sla 0 A.sz 0 n0 (.un A.sz)) u:=fun n0 u h1=>by
  cases h1 with
  | sla _ _ _ _ _ l c h hc eK=>exact .sla 0 _ 0 _ _ l c (by show (if (0:Nat)=0 then ρ b else none)=_;grind) hc eK
  | slan _ _ _ _=>exact .slan _ _ _ _
 have hargs1:Vf (VRel (J1 H (ρ b))) (.sla 0 A.sz 0 A.n (.un A.sz)::r) vals.toList:=by
  generalize vals.toList=us at eN;cases eN with
  | cons h1 h2=>
   refine .cons ?_ ?_
   .grind
   .exact Vf.of h2.length fun i g1 g2=>(Jv 3 _ _ (As.1 hr _ (AU g1)) (h2.get i g1 g2)).mono hbare
 have hget0: ∀l,J1 H (ρ b) 0=some l↔ρ b=some l:=fun l=>Iff.rfl;have fC: ∀c l,J1 H (ρ b) c=some l->c=0/\ρ b=some l:=fun c l e=>by
  have e:(if c=0 then ρ b else none)=some l:=e
  grind
 have hm1:Yi (F1 ty A.sz A.n A.get) 0=some ⟨rows A.n A.get,ty,some ⟨A.sz,A.n,.flat A.get⟩⟩:=Yw _ _ _;have fM:CH (J1 H (ρ b)) (F1 ty A.sz A.n A.get) 1 w:=by
  refine ⟨fun c l e=>by grind,fun c c' l l' e e' _ _ _=>by grind,fun c l ab e hc=> ?_,fun k o e=>(hHs k o e).1,fun c l e _=> ?_,fun c l e=>eI.real b l (fC c l e).2,fun c hc=> ?_,⟨fun j l e=>(by cases e),eI.ldom.2.mono hfz⟩⟩
  .obtain ⟨rfl,e2⟩:=fC c l e;rw [hm1] at hc;obtain rfl:=Ag hc;have q:=(eI.blk b l _ e2 hm).rows rfl;obtain ⟨q0,q1,q2,q3,cs,el,q4,q5,q6⟩:=q;obtain ⟨a1,a2,a3⟩:=q3 A rfl;simp only at a1;subst a1;have q':Wn ρ w ⟨rows A.n A.get,ty,some ⟨A.sz,A.n,.flat A.get⟩⟩ l:=.plain ⟨q0,q1,q2,fun B e=>by
    obtain rfl:=Ag e;exact ⟨rfl,a2,a3⟩,cs,el,q4,q5,q6⟩
   exact q'.pl (v4u hp) _
  .obtain ⟨_,e2⟩:=fC c l e;exact AF ⟨l,e2,rfl⟩
  .show Yi (Wv .leaf 0 _) c=none;rw [Zw _ _ (by omega)];rfl
 have fJ: ∀k o,w.heap[k]? =some o->(∃l0,ρ b=some l0/\l0.blk=k)\/H k=some o:=fun k o e=>by
  grind
 refine (hF A.sz A.n A.get r n' g hv hp hp' hsz H (ρ b) vals w hargs1 fM fJ).mono fun e w' ⟨ρ1,u,m',nx,b1,he,hu,hmb,hr1,hfz1,gK,hos,htape,hout⟩=> ?_;have hgone: ∀k,(¬ ∃l,ρ b=some l/\l.blk=k)-> ∀o,w.heap[k]? =some o->w'.heap[k]? =some o/\ρ1.fz k=some o:=fun k hk o e=>by have h2:=hfz1 k o ((hH k hk).trans e);exact ⟨hr1.old k o h2,h2⟩
 let ρ':CF:=⟨fun c=>if c=next then ρ1 b1 else ρ c,ρ.fz,ρ.lp⟩
 have eU: ∀c l,ρ' c=some l->(c=next/\ρ1 b1=some l)\/(c≠next/\ρ c=some l):=fun c l e=>by
  grind
 have hnew:ρ' next=ρ1 b1:=AF rfl
 have holdc: ∀c,c<next->ρ' c=ρ c:=fun c hc=>Az (by omega)
 have hle:ρ.le ρ':=⟨fun c l e=>by rw [holdc c (eI.dom c l e)];exact e,fun _ _ e=>e,fun _ _ e=>e⟩
 have hm': ∀c,c≠next->Yi (Wv (Wv mem b none) next (some ⟨rows n' g,ty,some ⟨A.sz,n',.flat g⟩⟩)) c=if c=b then none else Yi mem c:=fun c hc=>by
  grind [Zw,Yw]
 have hmn:Yi (Wv (Wv mem b none) next (some ⟨rows n' g,ty,some ⟨A.sz,n',.flat g⟩⟩)) next=some ⟨rows n' g,ty,some ⟨A.sz,n',.flat g⟩⟩:=Yw _ _ _
 have hother: ∀c l,ρ c=some l->(Yi mem c).isSome =true->c≠b-> ¬ ∃l',ρ b=some l'/\l'.blk=l.blk:=fun c l e hs hcb ⟨l',e',hb⟩=>hcb (eI.inj c b l l' e e' hb.symm hs (by rw [hm];rfl));have gL: ∀c l,ρ c=some l-> ∃o,w.heap[l.blk]? =some o:=fun c l e=>⟨_,BI (eI.real c l e)⟩
 have hsepn: ∀l,ρ1 b1=some l->ρ1.fz l.blk=none:=fun l e=>hr1.sep b1 l e (by rw [hmb];rfl);have fB:VRel ρ' (.sla next A.sz 0 n' (.un A.sz)) u:=by
  cases hu with
  | sla _ _ _ _ _ l c h hc eK=>exact .sla next _ 0 _ _ l c (hnew.trans h) hc eK
  | slan _ _ _ _=>exact .slan _ _ _ _
 refine ⟨ρ',u,he,fB,?_,?_⟩
 .refine ⟨fun c l e=> ?_,fun c c' l l' e e' hbl hs hs'=> ?_,fun c l ab e hc=> ?_,fun k o e=> ?_,fun c l e hs=> ?_,fun c l e=> ?_,fun c hc=> ?_,⟨fun j l e=>Bs (eI.ldom.1 j l e),eI.ldom.2⟩⟩
  .rcases eU c l e with ⟨rfl,_⟩ | ⟨_,e⟩
   .omega
   .have:=eI.dom c l e;omega
  .have clash: ∀c l l',c≠next->ρ c=some l->ρ1 b1=some l'->l.blk=l'.blk->(Yi (Wv (Wv mem b none) next (some ⟨rows n' g,ty,some ⟨A.sz,n',.flat g⟩⟩)) c).isSome =true->False:=fun c l l' hc e e' hbl hs=>by
    grind
   rcases eU c l e with ⟨h1,h2⟩ | ⟨h1,h2⟩ <;> rcases eU c' l' e' with ⟨h1',h2'⟩ | ⟨h1',h2'⟩
   .rw [h1,h1']
   .grind
   .grind
   .rw [hm' c h1] at hs;rw [hm' c' h1'] at hs';by_cases hcb:c=b
    .grind
    .by_cases hcb':c'=b
     .grind
     .rw [Az hcb] at hs;rw [Az hcb'] at hs';exact eI.inj c c' l l' h2 h2' hbl hs hs'
  .rcases eU c l e with ⟨h1,h2⟩ | ⟨h1,h2⟩
   .subst h1;rw [hmn] at hc;obtain rfl:=Ag hc;have q:=(hr1.blk b1 l _ h2 hmb).pl (v4u hp') ρ';exact .plain ⟨(q.rows rfl).typ,q.n,q.tot,q.arr,(q.rows rfl).cells⟩
   .rw [hm' c h1] at hc;by_cases hcb:c=b
    .grind
    .rw [Az hcb] at hc;obtain ⟨o,ho⟩:=gL c l h2;refine (eI.blk c l ab h2 hc).world hle ?_;rw [(hgone l.blk (hother c l h2 (by rw [hc];rfl) hcb) o ho).1,ho]
  .have h1:=hfz k o e;obtain ⟨h2,h3⟩:=hHs k o h1;exact (hgone k h3 o h2).1
  .rcases eU c l e with ⟨h1,h2⟩ | ⟨h1,h2⟩
   .cases hq:ρ.fz l.blk with
    | none=>rfl
    | some o=>
     grind
   .rw [hm' c h1] at hs;by_cases hcb:c=b
    .grind
    .rw [Az hcb] at hs;exact eI.sep c l h2 hs
  .rcases eU c l e with ⟨h1,h2⟩ | ⟨h1,h2⟩
   .exact hr1.real b1 l h2
   grind
  .rw [hm' c (by omega),Az (by omega)];exact eI.bd c (by omega)
 .refine ⟨hle,fun c hc=>holdc c hc,by omega,fun c hc hn cs ty2 hq=> ?_,fun k o hk hn=> ?_,fun c l hc e=> ?_,gK,hos,htape,hout,fun k _=>rfl⟩
  .grind
  .exact (hgone k (fun ⟨l,h1,h2⟩=>hn b l h1 hfl h2) o hk).1
  .rcases eU c l e with ⟨h1,h2⟩ | ⟨h1,h2⟩
   .rcases A8 l.blk w.heap.size with h | h
    .rcases fJ l.blk _ (BI h) with ⟨l0,h3,h4⟩ | h3;all_goals grind
    grind
   grind
theorem y9c {S:CC} {R:CK} (hS:Zu P S) (hR:Gd P R) {lift:Bool} {f:FuncId} {args:zy} {cx:CN} {st st':St} {v:CA} (hcx:cx.floor<=st.next) (h:Rj P S R lift f args cx st=some (v,st')) (hob:st'.ob=true)
  {vals:Array Value} (eN:Vf (VRel ρ) args vals.toList) {w:World} (eI:CH ρ st.mem st.next w):
  (∃fn,P.funcs[f]? =some fn/\fn.body.isSome=true)/\Calls P f vals w fun e w'=> ∃ρ' u,e=.returned u/\Dg ρ cx.floor st st' v w ρ' u w':=by
 unfold Rj at h;split at h
 .rename_i F hF;rcases Uk h with ⟨hca,h⟩ | ⟨_,h⟩
  .split at h
   .rename_i v' b hFa;obtain ⟨hc2,h⟩:=Zi h;have hc1:=As.1 hca;simp only [Ar,Ad] at h;obtain ⟨st1,h1,rfl,rfl⟩:=h;obtain ⟨_,e2,e3,e4⟩:=Wu h1;obtain ⟨rfl,_⟩:=e4 hob;obtain ⟨hfn,eZ⟩:=hS f _ hF;refine ⟨hfn,?_⟩;have hargs0:Vf (VRel ρ.bare) args vals.toList:=Vf.of eN.length fun i g1 g2=>Jv 3 _ _ (hc1 _ (AU g1)) (eN.get i g1 g2);refine (eZ args v' hFa ρ.fz vals w hargs0 eI.old eI.ldom.2).mono fun e w' ⟨H',u,hle,hold,eX,he,hv,hb⟩=>⟨⟨ρ.f,H',ρ.lp⟩,u,he,VRel.mono (ρ:=rhoOf H') (ρ':=⟨ρ.f,H',ρ.lp⟩) ⟨fun _ _ e=>(by cases e),fun _ _ e=>e,fun _ _ e=>(by cases e)⟩ hv,?_,?_⟩
    .rw [e2,e3];have hle':ρ.le ⟨ρ.f,H',ρ.lp⟩:=⟨fun _ _ e=>e,hle,fun _ _ e=>e⟩
     exact ⟨eI.dom,eI.inj,fun b l ab q1 q2=>(eI.blk b l ab q1 q2).world hle' (hb.block _ (eI.real b l q1)),hold,fun b l q hs=>(eX _ (eI.real b l q)).trans (eI.sep b l q hs),fun b l q=>AZ (eI.real b l q) hb.size,eI.bd,eI.ldom.1,eI.ldom.2.mono hle⟩
    .rw [e2,e3];exact ⟨⟨fun _ _ e=>e,hle,fun _ _ e=>e⟩,fun _ _=>rfl,Aq _,fun _ _ _ _ _ h=>h,fun k o hk _=>by rw [hb.block k (AC.1 hk).1];exact hk,
      fun b l hb' hl=>by grind,hb.size,hb.os,hb.tape,hb.output,eX⟩
   .cases h
  .split at h;rename_i args' o hview;split at h
   .rename_i v' b hFa;obtain ⟨hc,h⟩:=Zi h;simp only [Ac] at hc;simp only [Ar,Ad] at h;obtain ⟨st1,h1,rfl,rfl⟩:=h;obtain ⟨_,e2,e3,e4⟩:=Wu h1;obtain ⟨hob1,_⟩:=e4 hob;simp only [Ac] at hob1;obtain ⟨ho,rfl⟩:=hob1;obtain ⟨hfn,eZ⟩:=hS f _ hF;refine ⟨hfn,?_⟩;have hargs0:=x8o eI eN hview ho hc.1;refine (eZ args' v' hFa (fun k=>w.heap[k]?) vals w hargs0 (fun _ _ e=>e) (eI.ldom.2.mono eI.old)).mono fun e w' ⟨H',u,hle,hold,eX,he,hv,hb⟩=>⟨ρ,u,he,w8t hc.2 hv,?_,?_⟩
    .rw [e2,e3];exact ⟨eI.dom,eI.inj,fun b l ab q1 q2=>(eI.blk b l ab q1 q2).world (CF.le_refl _) (hb.block _ (eI.real b l q1)),fun k o q=>by rw [hb.block k (AC.1 (eI.old k o q)).1];exact eI.old k o q,eI.sep,fun b l q=>AZ (eI.real b l q) hb.size,eI.bd,eI.ldom⟩
    .rw [e2,e3];exact ⟨CF.le_refl _,fun _ _=>rfl,Aq _,fun _ _ _ _ _ h=>h,fun k o hk _=>by grind,
      fun b l hb' hl=>by grind,hb.size,hb.os,hb.tape,hb.output,fun _ _=>rfl⟩
   .cases h
 .rename_i F hF;split at h
  .rename_i v0 b blk o hFa;split at h
   .rename_i ab hm;obtain ⟨hc,h⟩:=Zi h;simp only [Ac] at hc;simp only [Ar,Ad] at h;obtain ⟨st1,h1,rfl,rfl⟩:=h;obtain ⟨_,e2,e3,e4⟩:=Wu h1;obtain ⟨rfl,_⟩:=e4 hob;obtain ⟨hfn,eZ⟩:=hS f _ hF;refine ⟨hfn,?_⟩;refine (eZ args st.mem v0 b blk hFa (by rw [hm];rfl) ρ st.next cx.floor vals w (Ak hc.2) eN eI).mono fun e w' ⟨u,he,hv,hr,hev⟩=>⟨ρ,u,he,hv,?_,?_⟩
    .rw [e2,e3];exact hr
    .rw [e2,e3];exact hev
   .cases h
  .cases h
 .rename_i ty0 F hF;split at h
  .rename_i b sz n sz' r;split at h
   .rename_i cells ty A hm;obtain ⟨hc,h⟩:=Zi h;simp only [Ac] at hc;obtain ⟨⟨c0,c1,c2⟩,c4,c5,c6⟩:=hc;have c0:=Ai c0;split at h
    .rename_i n' g o hFa;simp only [Ar,Ad] at h;obtain ⟨st1,h1,rfl,rfl⟩:=h;obtain ⟨env,mem,next,orc,ob⟩:=st;simp only at h1 hm hcx eI ⊢;obtain ⟨_,e2,e3,e4⟩:=Wu h1;obtain ⟨hob1,_⟩:=e4 hob;simp only [Ac] at hob1;obtain ⟨rfl,c3,hp,hp'⟩:=hob1;obtain ⟨hfn,eZ⟩:=hS f _ hF;rw [<-c0] at eZ;obtain rfl:=Ai c1;refine ⟨hfn,?_⟩;refine (v7t eZ hm ⟨Ai c2,Ai c3⟩ c4 (Ak c5) (Ak c6) hFa hp hp' eN eI).mono fun e w' ⟨ρ',u,he,hv,hr,hev⟩=>⟨ρ',u,he,hv,?_,?_⟩
     all_goals grind
    .cases h
   .cases h
  .cases h
 .split at h
  .rename_i fn hf;split at h
   .rename_i body hb;split at h
    .rename_i st2 hr;split at h
     .rename_i vs hvs;simp only [Ae,Ad] at h;obtain ⟨rfl,rfl⟩:=h;refine ⟨⟨fn,hf,by rw [hb];rfl⟩,?_⟩;intro cs
      let b:Frame:={(default:Frame) with fn:=f,kind:=.normal}
      have gM:Frame.enter P f vals .normal =b.at {tmps:=vals++Array.replicate (fn.ntmps - vals.size) undef,defers:=[]} [.code body]:=by simp [Frame.enter,Frame.at,hf,hb,b]
      obtain ⟨ρ',a',todo',w',fE,hd,eP,fH,hev⟩:=hR _ _ _ _ (by
       cases lift with
       | false=>exact hcx
       | true=>exact Aq _) hr hob ρ {tmps:=vals++Array.replicate (fn.ntmps - vals.size) undef,defers:=[]} w b cs rfl (y7x eN fn.ntmps) eI
      obtain ⟨u,hu,gP⟩:=z3h eP fH hvs;rw [<-gM] at fE;refine ⟨.returned u,w',_,⟨ρ',u,rfl,hu,fH,?_⟩,fE,rfl,rfl,hd,rfl,fn,hf,gP⟩;refine hev.lower ?_
      grind
     .cases h
    .cases h
   .cases h
  .cases h
theorem x4o {S:CC} {R:CK} (hN:EL P) (hS:Zu P S) (hR:Gd P R) {lift:Bool} {o:Oper} {cx:CN} {st st':St} {v:CA} (hcx:cx.floor<=st.next)
  (h:Vu P S R lift o.op cx st=some (v,st')) (hob:st'.ob=true) {ev:Operand->CA} (hev: ∀x,x∈o.op.operands->ev x=st.eval x) {a:Act} (hr:Qz ρ ev a.eval o.op) {w:World} (eI:CH ρ st.mem st.next w):
  O6 P o a w (Dg ρ cx.floor st st' v w):=by
 obtain ⟨dst,op,type,pos,after,guard⟩:=o;simp only at h hr hev
 replace hr:Qz ρ st.eval a.eval op:=fun x hx=>by rw [<-hev x hx];exact hr x hx
 clear hev;unfold Vu at h;split at h
 .rename_i t x;split at h
  .rename_i v' b st0 hv;obtain ⟨l1,l2,l3,l4⟩:=WX hv;simp only [Ar,Ad] at h;obtain ⟨st1,h1,rfl,rfl⟩:=h;obtain ⟨e1,e2,e3,e4⟩:=Wu h1;obtain ⟨rfl,hob0⟩:=e4 hob;obtain ⟨z,hz,eO⟩:=y3q eI (l4 hob0).1 (hr x (by simp [Op.operands]));exact .inl ⟨ρ,z,w,by simp [execOp,eO],hz,by grind,by rw [e2,e3,l2,l3];exact Ev.refl _ _ _ _ _ eI.dom⟩
  .cases h
 .rename_i t;simp only [Ar,Ad] at h;obtain ⟨z,hz,rfl,rfl⟩:=h;obtain ⟨_,zv,_,_,hzr,hzv⟩:=We (ρ:=ρ) hz;refine .inl ⟨_,.pointer (some ⟨w.heap.size,0,none⟩),_,?_,QZ eI cx.floor z t zv.cells t (by rw [hzr.1];grind) hzr.2 _ _ fun ρ' hρ'=>.ptr _ 0 _ hρ'⟩;simp_all [execOp,Instr.alloc,newVar,newRow]
 .rename_i t x;obtain ⟨hbx,h⟩:=Zi h;simp only [Ae,Ad] at h;obtain ⟨rfl,rfl⟩:=h;have hc:=(hr x (by simp [Op.operands])).cells hbx;refine .inl ⟨_,.pointer (some ⟨w.heap.size,0,none⟩),_,?_,QZ eI cx.floor _ t (a.eval x).cells t (by rw [hc.1];grind) hc.2 _ _ fun ρ' hρ'=>.ptr _ 0 _ hρ'⟩;simp [execOp,Instr.box,newVar,newRow]
 .rename_i t len parts;obtain ⟨ρ',u,w',eO,hp,_,_⟩:=y2x eI cx.floor h (W0 parts.toList fun p hp=>hr p.2 (by grind [Op.operands]));refine .inl ⟨ρ',u,w',?_,hp⟩;have:(parts.map fun (i,x)=>(i,a.eval x))=(parts.toList.map fun p=>(p.1,a.eval p.2)).toArray :=by
   grind
  simp [execOp,this,eO]
 .rename_i t x y;split at h
  .rename_i b sz r fo hb;simp only [Ar,Ad] at h;obtain ⟨st1,h,rfl,rfl⟩:=h;have hx:=hr x (by simp [Op.operands]);rw [hb] at hx;obtain ⟨w',eO,hp⟩:=x4k eI h hob hx (hr y (by simp [Op.operands]));exact .inr (.inl ⟨ρ,w',by simp [execOp,eO],hp⟩)
  .simp only [Ar,Ad] at h;obtain ⟨st1,h,rfl,rfl⟩:=h;obtain ⟨w',eO,hp,_,_⟩:=x7o eI h (hr x (by simp [Op.operands])) (hr y (by simp [Op.operands]));exact .inr (.inl ⟨ρ,w',by simp [execOp,eO],hp⟩)
 .rename_i t l c;rcases Uk h with ⟨_,h⟩ | ⟨_,h⟩
  .rcases Uk h with ⟨_,h⟩ | ⟨_,h⟩
   .obtain ⟨ρ',u,w',eO,hp,_,_⟩:=z0k (st:=st.dropO) eI cx.floor h (hr l (by simp [Op.operands])) (hr c (by simp [Op.operands]));exact .inl ⟨ρ',u,w',by simp [execOp,eO],hp.val,hp.rel,hp.ev⟩
   .obtain ⟨ρ',u,w',eO,hp⟩:=y2u (st:=st.dropO) eI h hob (hr l (by simp [Op.operands])) (hr c (by simp [Op.operands]));exact .inl ⟨ρ',u,w',by simp [execOp,eO],hp.val,hp.rel,hp.ev⟩
  .obtain ⟨ρ',u,w',eO,hp,_,_⟩:=z0k eI cx.floor h (hr l (by simp [Op.operands])) (hr c (by simp [Op.operands]));exact .inl ⟨ρ',u,w',by simp [execOp,eO],hp⟩
 .rename_i args argTypes;have eN:Vf (VRel ρ) (args.toList.map st.eval) (args.map a.eval).toList :=by rw [Bx];exact Vf.maps _ _ _ fun x hx=>hr x (by grind [Op.operands,Call.operands])
  unfold JA at h;rcases Uk h with ⟨_,h⟩ | ⟨hty,h⟩
  .cases h
  rw [Bool.not_eq_false'] at hty;rcases Uk h with ⟨_,h⟩ | ⟨_,h⟩
  .obtain ⟨ρ',u,w',eO,hp⟩:=x0b (type:=type) eI h hob eN hty;exact .inl ⟨ρ',u,w',by simp_all [execOp,resolve,invoke,builtin],hp⟩
  split at h
  .rename_i hxs;obtain ⟨ρ',u,w',eO,hp,_⟩:=z7j (type:=type) eI h hob (hxs ▸ eN) (by rw [hxs] at hty;exact hty);exact .inl ⟨ρ',u,w',by simp_all [execOp,resolve,invoke,builtin],hp⟩
  .obtain ⟨ρ',u,w',eO,hp,_,_⟩:=W5 (type:=type) eI cx.floor h eN hty;exact .inl ⟨ρ',u,w',by simp_all [execOp,resolve,invoke,builtin],hp⟩
 .rename_i args argTypes;have eN:Vf (VRel ρ) (args.toList.map st.eval) (args.map a.eval).toList :=by rw [Bx];exact Vf.maps _ _ _ fun x hx=>hr x (by grind [Op.operands,Call.operands])
  unfold RS at h;split at h
  .rename_i b sz off len cap x xs hxs;obtain ⟨ρ',u,w',eO,hp⟩:=y3r (type:=type) (d:=.sla b sz off len cap) eI h hob (hxs ▸ eN) fun u hu=>by
    cases hu with
    | sla _ _ _ _ _ l c hρ _ eK=>grind
    | slan=>grind
   exact .inl ⟨ρ',u,w',by simp_all [execOp,resolve,invoke,builtin],hp⟩
  .rename_i b sz off len x xs hxs;obtain ⟨ρ',u,w',eO,hp⟩:=y3r (type:=type) (d:=.slv b sz off len) eI h hob (hxs ▸ eN) fun u hu=>by
    cases hu with
    | slv _ _ _ _ l c hρ eK=>grind
    | slve _ _ _ blk base c=>grind
    | slvn=>grind
   exact .inl ⟨ρ',u,w',by simp_all [execOp,resolve,invoke,builtin],hp⟩
  .obtain ⟨ρ',u,w',eO,hp,_,_⟩:=w4g (type:=type) eI cx.floor h eN;exact .inl ⟨ρ',u,w',by simp_all [execOp,resolve,invoke,builtin],hp⟩
 .rename_i args argTypes;have eN:Vf (VRel ρ) (args.toList.map st.eval) (args.map a.eval).toList :=by rw [Bx];exact Vf.maps _ _ _ fun x hx=>hr x (by grind [Op.operands,Call.operands])
  obtain ⟨ρ',u,w',eO,hp,_,_⟩:=x7u (type:=type) eI cx.floor h eN;exact .inl ⟨ρ',u,w',by simp_all [execOp,resolve,invoke,builtin],hp⟩
 .rename_i f args argTypes;split at h
  .rename_i g caps hg;have hf:=hr f (by simp [Op.operands,Call.operands]);rw [hg] at hf;generalize hw:a.eval f=u at hf;cases hf with
   | fn _ _ cvs hl hh=>
    have eN:Vf (VRel ρ) (args.toList.map st.eval++caps) (args.map a.eval++cvs).toList :=by rw [Array.toList_append,Bx];exact Vf.append (Vf.maps _ _ _ fun x hx=>hr x (by grind [Op.operands,Call.operands])) (Vf.of (by grind) fun i h1 h2=>by grind)
    obtain ⟨⟨fn,hfn,hb⟩,hc⟩:=y9c hS hR hcx h hob eN eI;refine .inr (.inr ⟨g,args.map a.eval++cvs,?_,hc⟩);simp_all [RA,execOp,resolve,Deferred.ofValue,invoke]
  .rename_i g first hg
   have hf:=hr f (by simp [Op.operands,Call.operands]);rw [hg] at hf;generalize hw:a.eval f=u at hf;cases hf with
   | fnb _ _ cvs hl hh=>
    have eN:Vf (VRel ρ) (first++args.toList.map st.eval) (cvs++args.map a.eval).toList :=by rw [Array.toList_append,Bx];exact Vf.append (Vf.of (by grind) fun i h1 h2=>by grind) (Vf.maps _ _ _ fun x hx=>hr x (by grind [Op.operands,Call.operands]))
    obtain ⟨⟨fn,hfn,hb⟩,hc⟩:=y9c hS hR hcx h hob eN eI;refine .inr (.inr ⟨g,cvs++args.map a.eval,?_,hc⟩);simp_all [RA,execOp,resolve,Deferred.ofValue,invoke]
  .cases h
 .cases h
end
section
variable {P:Program} {ρ:CF}
theorem Vx.congr {env env':T CA} {n:Nat} {tmps:Array Value} (h:Vx ρ env n tmps) (he: ∀t,T.get .undef env' t=T.get .undef env t):Vx ρ env' n tmps:=
 ⟨h.size,fun i=>by rw [he];exact h.get i,fun i hi=>by rw [he];exact h.out i hi⟩
theorem Vx.eval {st:St} {n:Nat} {a:Act} (h:Vx ρ st.env n a.tmps) (x:Operand):VRel ρ (st.eval x) (a.eval x):=by
 cases x with
 | tmp t=>exact h.get t
 | const v=>exact v6g v
 | global g=>exact .undef _
 | func f=>exact .fn f [] #[] rfl fun i h1 _=>by simp at h1
theorem Vx.put {env env':T CA} {n:Nat} {a:Act} (h:Vx ρ env n a.tmps) {dst:Option Tmp} {v:CA} {u:Value} (hv:VRel ρ v u)
  (hp:(dst=none/\env'=env)\/ ∃d,dst=some d/\d<n/\env'=T.set .undef env d v):Vx ρ env' n (a.put dst u).tmps :=by
 rcases hp with ⟨rfl,rfl⟩ | ⟨d,rfl,hd,rfl⟩
 .exact h
 .have hsz:=h.size;refine ⟨by simp [Act.put,hsz],fun i=> ?_,fun i hi=> ?_⟩
  .rw [T.get_set];by_cases hi:i=d
   .simp_all [Act.put]
   .rw [Az hi];have:=h.get i
    simpa [Act.put,Array.getElem?_setIfInBounds_ne (Ne.symm hi)] using this
  .rw [T.get_set,Az (Nat.ne_of_gt (AZ hd hi))];exact h.out i hi
theorem Act.put_defers' (a:Act) (dst:Option Tmp) (v:Value):(a.put dst v).defers =a.defers:=by cases dst <;> rfl
theorem v2b {ops:Array Oper} {o:Oper} {cx:CN} {st st':St} {e:Bool} (h:HW ops o cx st=some (e,st')):st'.mem=st.mem/\st'.next=st.next/\(st'.ob=true->st.ob=true/\ ∀t,st'.tmp t=st.tmp t):=by
 unfold HW at h;split at h
 .grind
 .split at h
  .cases h
  .rename_i d hd;split at h
   .rename_i b hb;split at h;rename_i e1 st1 ht;split at h
    .rename_i st2 hp;simp only [Ae,Ad] at h;obtain ⟨_,rfl⟩:=h;obtain ⟨t1,t2,t3,t4⟩:=SY ht;obtain ⟨p1,p2,p3,p4⟩:=Vz hp;refine ⟨p1.trans t2,p2.trans t3,fun ho=> ?_⟩;rw [p3] at ho;obtain ⟨rfl,ho⟩:=t4 ho;refine ⟨ho,fun t=> ?_⟩;rcases p4 with ⟨e,_⟩ | ⟨d',e,_,he⟩
     .cases e
     .obtain rfl:=Ag e;show T.get .undef st2.env t=T.get .undef st.env t;rw [he,t1,T.get_set];split
      .rename_i h;subst h;exact hb.symm
      .rfl
    .cases h
   all_goals grind
def Uo (ops:Array Oper) (o:Oper):Option Tmp:=o.guard.bind fun g=>(ops[g.1]?).bind (·.dst)
theorem w4b {ops:Array Oper} {o:Oper} {cx:CN} {st st':St} {e:Bool} (h:HW ops o cx st=some (e,st')) (ho:st'.ob=true) {tmps:Array Value} (hsz:tmps.size=cx.n)
  (hr: ∀d,Uo ops o=some d->VRel ρ (st.tmp d) (tmps.getD d undef)):Region.wanted o (yielded ops tmps)=e:=by
 unfold HW at h;unfold Region.wanted;split at h
 .grind
 .rename_i j want hg;rw [hg];simp only;split at h
  .cases h
  .rename_i d hd;have hrd:=hr d (by simp [Uo,hg,hd]);split at h
   .rename_i b hb;split at h;rename_i e1 st1 ht;split at h
    .rename_i st2 hp;simp only [Ae,Ad] at h;obtain ⟨rfl,rfl⟩:=h;obtain ⟨_,_,_,t4⟩:=SY ht;obtain ⟨_,_,p3,p4⟩:=Vz hp;rw [p3] at ho;obtain ⟨rfl,_⟩:=t4 ho;rcases p4 with ⟨e,_⟩ | ⟨d',e,hlt,_⟩
     .cases e
     .obtain rfl:=Ag e;rw [hb] at hrd;have hlt':d<tmps.size:=(by grind);have eU:tmps.getD d undef=tmps[d]:=(by simp [hlt']);rw [eU] at hrd;have:yielded ops tmps j=some e1:=by unfold yielded;rw [hd];simp only [Option.bind_some,BI hlt'];generalize tmps[d]=u at hrd;cases hrd;rfl
      grind
    .cases h
   .rename_i hb;simp only [Ae,Ad] at h;obtain ⟨rfl,rfl⟩:=h;rw [hb] at hrd;have:yielded ops tmps j=none:=by
     unfold yielded;rw [hd];simp only [Option.bind_some];by_cases hlt:d<tmps.size
     .have eU:tmps.getD d undef=tmps[d]:=(by simp [hlt]);rw [eU] at hrd;rw [BI hlt];generalize tmps[d]=u at hrd;cases hrd;rfl
     grind
    grind
   .cases h
theorem v9e {cx:CN} {t:Nat} {kd:IntKind} {n:Int} {st st':St} (ht:st.tmp t=.int kd n) (h:st.conc cx t kd n=some st'):st'.mem=st.mem/\st'.next=st.next/\(st'.ob=true->st.ob=true/\ ∀t,st'.tmp t=st.tmp t):=by
 obtain ⟨env,mem,next,orc,ob⟩:=st;cases orc with
 | nil=>
  obtain rfl:=Ag h
  grind
 | cons o r=>
  unfold St.conc at h;obtain ⟨_,h⟩:=Zi h;obtain rfl:=Ag h;refine ⟨rfl,rfl,fun ho=> ?_⟩;simp only [Ac,Ao] at ho;refine ⟨ho.2,fun k=> ?_⟩;show T.get .undef (T.set .undef env t _) k=T.get .undef env k;rw [T.get_set];split
  .rename_i e;subst e;rw [<-ho.1];exact ht.symm
  .rfl
theorem v2g {o:Oper} {cx:CN} {st st':St} (h:ZM o cx st=some st'):st'.mem=st.mem/\st'.next=st.next/\(st'.ob=true->st.ob=true/\ ∀t,st'.tmp t=st.tmp t):=by
 grind [ZM,v9e]
theorem Ks {ops:Array Oper} {o:Oper} {cx:CN} {st st':St} {e:Bool} (h:GJ ops o cx st=some (e,st')): ∃st1,HW ops o cx st=some (e,st1)/\st'.mem=st1.mem/\st'.next=st1.next/\(st'.ob=true->st1.ob=true/\ ∀t,st'.tmp t=st1.tmp t)/\(Xa o.op=.alloc \/e=false->st'=st1):=by
 unfold GJ at h;split at h
 .rename_i st1 h1;split at h
  .rename_i st2 h2;simp only [Ae,Ad] at h;obtain ⟨rfl,rfl⟩:=h;obtain ⟨c1,c2,c3⟩:=v2g h2;refine ⟨st1,h1,c1,c2,c3,fun hk=> ?_⟩;rcases hk with hk | hk
   .unfold ZM at h2;split at h2
    .rename_i ho;rw [ho] at hk;cases hk
    .rename_i ho;rw [ho] at hk;cases hk
    grind
   .cases hk
  .cases h
 grind
theorem Wd {ops:Array Oper} {o:Oper} {cx:CN} {st st':St} {e:Bool} (h:GJ ops o cx st=some (e,st')):st'.mem=st.mem/\st'.next=st.next/\(st'.ob=true->st.ob=true/\ ∀t,st'.tmp t=st.tmp t):=by
 grind [Ks,v2b]
theorem Up {ops:Array Oper} {o:Oper} {cx:CN} {st st':St} {e:Bool} (h:GJ ops o cx st=some (e,st')) (ho:st'.ob=true) {tmps:Array Value} (hsz:tmps.size=cx.n)
  (hg: ∀d,Uo ops o=some d->VRel ρ (st.tmp d) (tmps.getD d undef)):Region.wanted o (yielded ops tmps)=e:=by
 obtain ⟨st1,h1,_,_,c3,_⟩:=Ks h;exact w4b h1 (c3 ho).1 hsz hg
structure j9r (P:Program) (cx:CN) (o:Oper) (st st':St) (v:CA):Prop where
 ob:st.ob=true
 does: ∀(ρ:CF) (a:Act) (w:World) (ev:Operand->CA),(∀x,x∈o.op.operands->ev x=st.eval x)->Qz ρ ev a.eval o.op->CH ρ st.mem st.next w->O6 P o a w (Dg ρ cx.floor st st' v w)
 calm:(Xa o.op=.pure \/Xa o.op=.read)-> ∀(ρ:CF) (a:Act) (w:World) (ev:Operand->CA) (mem:CI) (next:Nat),(∀x,x∈o.op.operands->ev x=st.eval x)->Qz ρ ev a.eval o.op->CH ρ mem next w->
  (∀t y b ab,o.op=.load t y->Eg o.op ev=some b->Yi st.mem b=some ab->Yi mem b=some ab)-> ∃u,(execOp a.eval o).run P w=.ok (.value u) w/\VRel ρ v u
theorem v7f {op:Op} {ev:Operand->CA} {x:CA×Bool} (h:Qc P op ev=some x):Xa op=.pure :=by
 cases op with
 | call c=>
  obtain ⟨callee,args,argTypes⟩:=c;cases callee with
  | builtin b=>cases b <;> first | rfl | (simp [Qc,W7] at h)
  | value f=>simp [Qc] at h
  | invoke r m=>rfl
 | _=>first | rfl | (simp [Qc] at h;done)
theorem w1j {S:CC} {R:CK} (hN:EL P) (hS:Zu P S) (hRI:Et R) (hR:Gd P R) {lift:Bool} {o:Oper} {cx:CN} {st st':St} (hcx:cx.floor<=st.next) (h:Mu P S R lift o cx st=some st'):
  ∃v stm,stm.put cx o.dst v=some st'/\stm.env=st.env/\Xd cx.floor st stm/\((Xa o.op=.pure \/Xa o.op=.read)->stm.mem=st.mem/\stm.next=st.next)/\
   (lift=true->Xa o.op=.call -> ∀b,b<st.next->Ec S o.op st.eval≠some b->Yi stm.mem b=Yi st.mem b)/\
   (Xa o.op=.chain -> ∀b,b<st.next->EH o.op st.eval≠some b->Yi stm.mem b=Yi st.mem b)/\
   (Xa o.op=.alloc ->v=.ptr st.next 0/\ ∃t z,o.op=.alloc t/\E4 P t=some z/\stm=Cy st z t)/\
   (st'.ob=true->j9r P cx o st stm v):=by
 unfold Mu at h;split at h
 .rename_i v b hp;have hk:=v7f hp;split at h
  .rename_i st1 h1;obtain ⟨e1,e2,e3,e4⟩:=Wu h1;refine ⟨v,st1,h,e1,Xd.same e2 e3 fun x=>(e4 x).2,fun _=>⟨e2,e3⟩,(fun _ hc=>by grind),(fun hc=>by grind),(fun hc=>by grind),fun ho=> ?_⟩;obtain ⟨_,_,p3,_⟩:=Vz h;rw [p3] at ho;obtain ⟨rfl,ho1⟩:=e4 ho;refine ⟨ho1,fun ρ a w ev hev hr eI=> ?_,fun _ ρ a w ev mem next hev hr eI hag=> ?_⟩
   .have hr':Qz ρ st.eval a.eval o.op:=fun x hx=>by rw [<-hev x hx];exact hr x hx
    obtain ⟨u,hu,eO⟩:=y8v hp rfl hr';exact .inl ⟨ρ,u,w,eO w,hu,by grind,by rw [e2,e3];exact Ev.refl _ _ _ _ _ eI.dom⟩
   .have hr':Qz ρ st.eval a.eval o.op:=fun x hx=>by rw [<-hev x hx];exact hr x hx
    grind [y8v]
  .cases h
 .split at h
  .rename_i v stm he;obtain ⟨gC,eP⟩:=y9a hRI he;refine ⟨v,stm,h,eP,gC,fun hk=> ?_,fun hl hk b hb hw=> ?_,fun hk b hb hn=>x7t hk hb hn he,fun hk=> ?_,fun ho=> ?_⟩
   .obtain ⟨dst,op,type,pos,after,guard⟩:=o;simp only at hk he;cases op with
    | load t x=>
     simp only [Vu] at he;split at he
     .rename_i hl;obtain ⟨l1,l2,l3,l4⟩:=WX hl;simp only [Ar,Ad] at he
      grind [Wu]
     .cases he
    | call c=>
     obtain ⟨callee,args,argTypes⟩:=c;cases callee with
     | builtin b=>cases b <;> first | (simp [Vu] at he;done) | (simp [Xa] at hk;done)
     | value f=>simp [Xa] at hk
     | invoke r m=>simp [Vu] at he
    | _=>first | (simp [Vu] at he;done) | (simp [Xa] at hk;done)
   .obtain ⟨dst,op,type,pos,after,guard⟩:=o;simp only at hk he;cases op with
    | call c=>
     obtain ⟨callee,args,argTypes⟩:=c;cases callee with
     | builtin b=>cases b <;> first | (simp [Vu] at he;done) | (simp [Xa] at hk;done)
     | value f=>
      grind [Vu,x7v,Ec]
     | invoke r m=>simp [Vu] at he
    | _=>first | (simp [Vu] at he;done) | (simp [Xa] at hk;done)
   .obtain ⟨dst,op,type,pos,after,guard⟩:=o;simp only at hk he;cases op with
    | alloc t=>
     simp only [Vu,Ar,Ad] at he
     grind
    | call c=>
     obtain ⟨callee,args,argTypes⟩:=c;cases callee with
     | builtin b=>cases b <;> first | (simp [Vu] at he;done) | (simp [Xa] at hk;done)
     | value f=>simp [Xa] at hk
     | invoke r m=>simp [Vu] at he
    | _=>first | (simp [Vu] at he;done) | (simp [Xa] at hk;done)
   .obtain ⟨_,_,p3,_⟩:=Vz h;rw [p3] at ho;refine ⟨gC.ob ho,fun ρ a w ev hev hr eI=>x4o hN hS hR hcx he ho hev hr eI,fun hk ρ a w ev mem next hev hr eI hag=> ?_⟩;obtain ⟨dst,op,type,pos,after,guard⟩:=o;simp only at hk he hev hr hag;cases op with
    | load t x=>
     simp only [Vu] at he;split at he
     .rename_i v' bb st0 hv;obtain ⟨l1,l2,l3,l4⟩:=WX hv;simp only [Ar,Ad] at he;obtain ⟨st1,h1,rfl,rfl⟩:=he;obtain ⟨_,_,_,e4⟩:=Wu h1;obtain ⟨rfl,hob0⟩:=e4 ho;have hv:=(l4 hob0).1;have hx:x∈(Op.load t x).operands :=(by simp [Op.operands]);have hl:Mk P mem t (ev x)=some (v',true):=by
       rw [hev x hx];have hag': ∀b ab,Eg (.load t x) st.eval=some b->Yi st.mem b=some ab->Yi mem b=some ab:=fun b ab q1 q2=>hag t x b ab rfl (by grind [Eg]) q2;unfold Mk at hv ⊢;split at hv
       .grind [Eg]
       .rename_i y hy;unfold NE at hv ⊢
        grind [Eg]
      obtain ⟨z,hz,eO⟩:=y3q eI hl (hr x hx);simp_all [execOp]
     .cases he
    | call c=>
     obtain ⟨callee,args,argTypes⟩:=c;cases callee with
     | builtin b=>cases b <;> first | (simp [Vu] at he;done) | (simp [Xa] at hk;done)
     | value f=>simp [Xa] at hk
     | invoke r m=>simp [Vu] at he
    | _=>first | (simp [Vu] at he;done) | (simp [Xa] at hk;done)
  .cases h
theorem y6w {S:CC} {R:CK} {ops:Array Oper} {cx:CN} {x:Bool×Oper} {l:List (Bool×Oper)} {st:St}:ZG P S R ops cx (x::l) st=(H3 P S R ops cx x st).bind (ZG P S R ops cx l):=by
 grind [ZG,H3]
theorem O6.wp2 {o:Oper} {a:Act} {w:World} {K:CF->Value->World->Prop} {next:Act->World->Prop} {Q:Exit->Act->World->Prop} (h:O6 P o a w K)
  (hk: ∀ρ' u w',K ρ' u w'->((execOp a.eval o).run P w=.ok (.value u) w'\/ ∀u w',(execOp a.eval o).run P w≠ .ok (.value u) w')->next (a.put o.dst u) w'):o.wp P a w next Q:=by
 unfold Oper.wp;rcases h with ⟨ρ',u,w',e,k⟩ | ⟨ρ',w',e,k⟩ | ⟨f,args,e,hc⟩
 .have:=hk _ _ _ k (.inl e);rw [e];exact this
 .have:=hk _ _ _ k (.inr fun u w' e2=>by grind);rw [e];exact this
 .rw [e];exact hc.mono fun e' w' ⟨ρ',u,he,k⟩=>by
   grind
theorem w8e (m:CI) (sz:Nat) (zero:zy) (ut:TypeDesc) (b o n:Nat) (c:FQ):Y4 m sz zero ut (.sl b o n c)=none:=by cases ut <;> rfl
theorem v9n {cx:CN} {st:St} {ts:List TypeId} {s:CA} {b o n:Nat} {c:FQ} {r:zy}:HP P cx st ts (s::.sl b o n c::r)=none:=by
 unfold HP
 grind [w8e,unN]
theorem v0r {S:CC} {R:CK} {lift:Bool} {o:Oper} {cx:CN} {st st':St} (h:Mu P S R lift o cx st=some st') (hob:st'.ob=true) {b:Nat} (hk:Ed o.op st.eval st.mem=some b) {a:Act} {w:World} (hr:Qz ρ st.eval a.eval o.op) (eI:CH ρ st.mem st.next w):
  ∃u w',(execOp a.eval o).run P w=.ok (.value u) w'/\ ∀ab l,Yi st.mem b=some ab->ρ b=some l->Wn ρ w' ab l:=by
 obtain ⟨dst,op,type,pos,after,guard⟩:=o;simp only at hk hr;unfold Ed at hk;split at hk
 .rename_i args argTypes;have eN:Vf (VRel ρ) (args.toList.map st.eval) (args.map a.eval).toList :=by rw [Bx];exact Vf.maps _ _ _ fun x hx=>hr x (by grind [Op.operands,Call.operands])
  have h:(match JA P cx st argTypes.toList (args.toList.map st.eval) with
   | some (v,st2)=>st2.put cx dst v
   | none=>none)=some st':=h
  split at h
  .rename_i v st2 h2;have ho2:st2.ob=true:=by
    obtain ⟨_,_,p3,_⟩:=Vz h
    grind
   unfold JA at h2;rcases Uk h2 with ⟨_,h2⟩ | ⟨hty,h2⟩
   .cases h2
   rw [Bool.not_eq_false'] at hty;split at hk
   .rename_i b' sz off len z b2 o2 n2 c2 r he;obtain rfl:=Ag hk;rw [he] at h2 eN;rcases Uk h2 with ⟨_,h2⟩ | ⟨_,h2⟩
    .rw [v9n] at h2;cases h2
    .obtain ⟨ρ',u,w',eO,_,hq⟩:=z7j (type:=type) eI h2 ho2 eN (by rw [he] at hty;exact hty);exact ⟨u,w',by simp_all [execOp,resolve,invoke,builtin],fun ab l k1 k2=>hq _ _ _ _ _ _ _ _ rfl k1 k2⟩
   .rename_i b' off len z b2 o2 n2 c2 r he;split at hk
    .rename_i blk hm;obtain ⟨hc,hk⟩:=Zi hk;obtain rfl:=Ag hk;simp only [Ac] at hc;rw [he] at h2 eN;rcases Uk h2 with ⟨_,h2⟩ | ⟨_,h2⟩
     .rw [v9n] at h2;cases h2
     .obtain ⟨ρ',u,w',eO,_,_,hq⟩:=W5 (type:=type) eI cx.floor h2 eN (by rw [he] at hty;exact hty);refine ⟨u,w',by simp_all [execOp,resolve,invoke,builtin],fun ab l k1 k2=> ?_⟩;rw [hm] at k1;obtain rfl:=Ag k1;exact hq.1 _ _ _ _ _ _ _ _ _ _ _ rfl (Ak hc.2) hm (Ai hc.1) k2
    .cases hk
   .cases hk
  .cases h
 .cases hk
structure j9t (S:CC) (P:Program) (ops:Array Oper) (cx:CN) (x:Bool×Oper) (st st':St):Prop where
 inv:Xd cx.floor st st'
 stay:(Xa x.2.op=.pure \/Xa x.2.op=.read)->st'.mem=st.mem/\st'.next=st.next
 lift:st'.ob=true->x.1=true->Xa x.2.op=.call -> ∀b,b<st.next->Ec S x.2.op st.eval≠some b->Yi st'.mem b=Yi st.mem b
 foot:st'.ob=true->Xa x.2.op=.chain -> ∀b,b<st.next->EH x.2.op st.eval≠some b->Yi st'.mem b=Yi st.mem b
 alloc:Xa x.2.op=.alloc ->x.2.guard=none-> ∃t z,x.2.op=.alloc t/\E4 P t=some z/\st'.mem=(Cy st z t).mem /\st'.next=(Cy st z t).next /\ ∀d,x.2.dst=some d->st'.tmp d=.ptr st.next 0
 slot: ∀d,x.2.dst=some d->d<cx.n
 other:st'.ob=true-> ∀t,x.2.dst≠some t->st'.tmp t=st.tmp t
 does:st'.ob=true-> ∀(ρ:CF) (a:Act) (w:World) (ev:Operand->CA),a.tmps.size=cx.n->(∀y,y∈x.2.op.operands->ev y=st.eval y)->(∀d,Uo ops x.2=some d->VRel ρ (st.tmp d) (a.tmps.getD d undef))->Qz ρ ev a.eval x.2.op->CH ρ st.mem st.next w->
  ∀(K:Act->World->Prop) (Q:Exit->Act->World->Prop),(∀ρ' u w',(∀d,x.2.dst=some d->VRel ρ' (st'.tmp d) u)->CH ρ' st'.mem st'.next w'->Ev ρ ρ' cx.floor st.mem st.next st'.mem st'.next w w'->(∀b ab l,Ed x.2.op st.eval st.mem=some b->Yi st.mem b=some ab->ρ b=some l->Wn ρ w' ab l)->K (a.put x.2.dst u) w')->
   if Region.wanted x.2 (yielded ops a.tmps) then x.2.wp P a w K Q else K (a.put x.2.dst undef) w
 calm:st'.ob=true->(Xa x.2.op=.pure \/Xa x.2.op=.read)-> ∀(ρ:CF) (a:Act) (w:World) (ev:Operand->CA) (mem:CI) (next:Nat),a.tmps.size=cx.n->(∀y,y∈x.2.op.operands->ev y=st.eval y)->(∀d,Uo ops x.2=some d->VRel ρ (st.tmp d) (a.tmps.getD d undef))->Qz ρ ev a.eval x.2.op->CH ρ mem next w->
  (∀t y b ab,x.2.op=.load t y->Eg x.2.op ev=some b->Yi st.mem b=some ab->Yi mem b=some ab)-> ∀(K:Act->World->Prop) (Q:Exit->Act->World->Prop),(∀u,(∀d,x.2.dst=some d->VRel ρ (st'.tmp d) u)->K (a.put x.2.dst u) w)->
   if Region.wanted x.2 (yielded ops a.tmps) then x.2.wp P a w K Q else K (a.put x.2.dst undef) w
theorem x0o {S:CC} {R:CK} (hN:EL P) (hS:Zu P S) (hRI:Et R) (hR:Gd P R) {ops:Array Oper} {x:Bool×Oper} {cx:CN} {st st':St} (hcx:cx.floor<=st.next) (h:H3 P S R ops cx x st=some st'):
  j9t S P ops cx x st st':=by
 unfold H3 at h;split at h
 .cases h
 .rename_i st1 hw;obtain ⟨w1,w2,w3⟩:=Wd hw;obtain ⟨v,stm,hp,eP,gC,hstay,hlift,hfoot,halloc,hdo⟩:=w1j hN hS hRI hR (by grind) h;obtain ⟨p1,p2,p3,p4⟩:=Vz hp;have fW: ∀d,x.2.dst=some d->st'.tmp d=v:=fun d hd=>by
   rcases p4 with ⟨e,_⟩ | ⟨d',e,_,he⟩
   .grind
   .rw [hd] at e;obtain rfl:=Ag e;show T.get .undef st'.env d=v;rw [he,T.get_set,AF rfl]
  have hi1:Xd cx.floor st st1:=Xd.same w1 w2 fun ho=>(w3 ho).1;have hi2:Xd cx.floor stm st':=Xd.same p1 p2 fun ho=>by grind
  refine ⟨(hi1.trans gC).trans hi2,fun hk=> ?_,fun ho hl hk b hb hn=> ?_,fun ho hk b hb hn=> ?_,fun hk hg=> ?_,fun d hd=> ?_,fun ho t ht=> ?_,fun ho ρ a w ev hsz hev hgr hr eI K Q hK=> ?_,fun ho hk ρ a w ev mem next hsz hev hgr hr eI hag K Q hK=> ?_⟩
  .grind
  .have ho1:st1.ob=true:=gC.ob (by grind);have eX:st1.eval=st.eval:=by
    funext y
    cases y with
    | tmp t=>exact (w3 ho1).2 t
    | _=>rfl
   grind
  .have ho1:st1.ob=true:=gC.ob (by grind);have eX:st1.eval=st.eval:=by
    funext y
    cases y with
    | tmp t=>exact (w3 ho1).2 t
    | _=>rfl
   grind
  .grind [Ks,HW]
  .grind
  .have ho1:st1.ob=true:=gC.ob (by grind);rw [<-(w3 ho1).2 t];show T.get .undef st'.env t=T.get .undef st1.env t
   grind [T.get_set]
  .have ho1:st1.ob=true:=gC.ob (by grind);have eX:=(w3 ho1).2;have fZ: ∀y,st1.eval y=st.eval y:=fun y=>by cases y <;> first | rfl | exact eX _
   rw [Up hw ho1 hsz hgr,AF rfl];refine ((hdo ho).does ρ a w ev (fun y hy=>by grind) hr (by grind)).wp2 fun ρ' u w' hpost eO=> ?_;have he:=hpost.ev;rw [w1,w2] at he;refine hK ρ' u w' (fun d hd=>by rw [fW d hd];exact hpost.val) (by rw [p1,p2];exact hpost.rel) (by grind) fun b ab l k1 k2 k3=> ?_;have hr':Qz ρ st1.eval a.eval x.2.op:=fun y hy=>by rw [fZ y,<-hev y hy];exact hr y hy
   have e1:st1.eval=st.eval:=funext fZ
   grind [v0r]
  .have ho1:st1.ob=true:=gC.ob (by grind);have eX:=(w3 ho1).2;have fZ: ∀y,st1.eval y=st.eval y:=fun y=>by cases y <;> first | rfl | exact eX _
   rw [Up hw ho1 hsz hgr,AF rfl];obtain ⟨u,eO,hu⟩:=(hdo ho).calm hk ρ a w ev mem next (fun y hy=>by grind) hr eI (fun t y b ab q1 q2 q3=>hag t y b ab q1 q2 (by grind))
   unfold Oper.wp;rw [eO];exact hK u fun d hd=>by grind
 .rename_i st1 hw;obtain ⟨w1,w2,w3⟩:=Wd hw;obtain ⟨p1,p2,p3,p4⟩:=Vz h;have fW: ∀d,x.2.dst=some d->st'.tmp d=.tup []:=fun d hd=>by
   rcases p4 with ⟨e,_⟩ | ⟨d',e,_,he⟩
   .grind
   .rw [hd] at e;obtain rfl:=Ag e;show T.get .undef st'.env d=.tup [];rw [he,T.get_set,AF rfl]
  refine ⟨Xd.same (p1.trans w1) (p2.trans w2) fun ho=>(w3 (by grind)).1,fun _=>⟨p1.trans w1,p2.trans w2⟩,fun _ _ _ b _ _=>by rw [p1,w1],fun _ _ b _ _=>by rw [p1,w1],fun hk hg=> ?_,fun d hd=> ?_,fun ho t ht=> ?_,fun ho ρ a w ev hsz hev hgr hr eI K Q hK=> ?_,fun ho hk ρ a w ev mem next hsz hev hgr hr eI hag K Q hK=> ?_⟩
  .grind [Ks,HW]
  .grind
  .rw [<-(w3 (by grind)).2 t];show T.get .undef st'.env t=T.get .undef st1.env t
   grind [T.get_set]
  .have ho1:st1.ob=true:=by grind
   rw [Up hw ho1 hsz hgr,Az (by simp)];refine hK ρ undef w (fun d hd=>by rw [fW d hd];exact .tup [] #[] rfl fun i h1 _=>by simp at h1) ?_ ?_ fun b ab l _ k2 k3=>eI.blk b l ab k3 k2
   .grind
   .rw [p1,p2,w1,w2];exact Ev.refl _ _ _ _ _ eI.dom
  .have ho1:st1.ob=true:=by grind
   rw [Up hw ho1 hsz hgr,Az (by simp)];exact hK undef fun d hd=>by rw [fW d hd];exact .tup [] #[] rfl fun i h1 _=>by simp at h1
def Ip (D:List Deferred) (ρ:CF) (cx:CN) (st st':St) (w:World):Exit->Act->World->Prop:=fun e a' w'=>
 e=.normal /\a'.defers=D/\ ∃ρ',Vx ρ' st'.env cx.n a'.tmps/\CH ρ' st'.mem st'.next w'/\Ev ρ ρ' cx.floor st.mem st.next st'.mem st'.next w w'
def u2l (ρ:CF) (k:Nat) (o:Obj):CF:=⟨ρ.f,fun j=>if j=k then some o else ρ.fz j,ρ.lp⟩
theorem x3e {k:Nat} {o:Obj} (h:ρ.fz k=none):ρ.le (u2l ρ k o):=
 ⟨fun _ _ e=>e,fun j o' e=>by
  show (if j=k then some o else ρ.fz j)=some o'
  grind,fun _ _ e=>e⟩
theorem CH.froze {mem:CI} {next:Nat} {w:World} (h:CH ρ mem next w) (vs:Array Value) (el:TypeId):
  CH (u2l ρ w.heap.size (.cells vs el)) mem next {w with heap:=w.heap.push (.cells vs el)}:=by
 have hle:=x3e (o:=.cells vs el) (h.hold w.heap.size (Aq _));have push: ∀k,k<w.heap.size->(w.heap.push (.cells vs el))[k]? =w.heap[k]? :=fun k hk=>by
  grind
 refine ⟨h.dom,h.inj,fun b l ab e hm=> ?_,fun k o e=> ?_,fun b l e hs=> ?_,fun b l e=> ?_,h.bd,h.ldom.1,h.ldom.2.mono hle.2.1⟩
 .exact (h.blk b l ab e hm).world hle (push _ (h.real b l e))
 .have e:(if k=w.heap.size then some (.cells vs el) else ρ.fz k)=some o:=e;show (w.heap.push (.cells vs el))[k]? =some o;by_cases hk:k=w.heap.size
  .grind
  .rw [Az hk] at e;have:=h.old k o e
   grind
 .have:=h.real b l e;show (if l.blk=w.heap.size then _ else ρ.fz l.blk)=none;rw [Az (by omega)];exact h.sep b l e hs
 .have:=h.real b l e
  grind
theorem Ev.froze {mem:CI} {next:Nat} {w:World} (h:CH ρ mem next w) (floor:Nat) (m:CI) (vs:Array Value) (el:TypeId):
  Ev ρ (u2l ρ w.heap.size (.cells vs el)) floor m next m next w {w with heap:=w.heap.push (.cells vs el)}:=by
 have hle:=x3e (o:=.cells vs el) (h.hold w.heap.size (Aq _));refine ⟨hle,fun _ _=>rfl,Aq _,fun _ _ _ _ _ q=>q,fun k o q _=> ?_,fun b l hb hl=> ?_,?_,rfl,rfl,rfl,fun k hk=> ?_⟩
 .grind
 .have:=h.dom b l hl;omega
 .grind
 .show (if k=w.heap.size then _ else ρ.fz k)=ρ.fz k
  grind
theorem w4f {w:World} {t:TypeId} {len:Nat} {ps:List (Nat×CA)} {qs:List (Nat×Value)} {v:CA} (hb:j9p P t len ps=some v) (hp:Iz ρ ps qs) (hf:ρ.fz w.heap.size=none):
  ∃u vs el,(Instr.buildSlice t len qs.toArray).run P w=.ok u {w with heap:=w.heap.push (.cells vs el)}/\VRel (u2l ρ w.heap.size (.cells vs el)) v u:=by
 unfold j9p at hb;split at hb
 .rename_i e hu;split at hb
  .rename_i i zero hi hz;obtain ⟨hc,hb⟩:=Zi hb;simp only [Ac] at hc;obtain ⟨⟨hl1,hs1⟩,hle,hzl⟩:=hc;have hl1:=Ak hl1;have hs1:=Ak hs1;have hle:=Ak hle;have hzl:=Ai hzl;split at hb
   .rename_i cells eQ;obtain ⟨hc,hb⟩:=Zi hb;simp only [Ac] at hc;obtain ⟨hn,hpf⟩:=hc;have hn:=Ai hn;obtain rfl:=Ag hb;obtain ⟨_,z,_,_,hzr,hzv⟩:=We (ρ:=ρ) hz;have fT:=RM hzr len (len*i.size) (by rw [hzl]);obtain ⟨arr,h1,h2⟩:=Qd eQ fT hp;have hsz:arr.size=len*i.size:=(by rw [<-h2.1,hn]);have hgt': ¬2 ^ 24<len*i.size:=(by omega);have hpos:0<len*i.size:=Nat.mul_pos (by omega) (by omega);have h0: ¬len*i.size=0:=(by omega);refine ⟨.slice (some ⟨w.heap.size,0,none⟩) len len,arr,e,?_,?_⟩
    .have hsz0: ¬i.size=0:=(by omega);simp [Instr.buildSlice,run_underlying hu,Yz hi,h0,hsz0,hzv,h1,newRow,hgt']
    .have hin: ∀a b,a<len->b<i.size->a*i.size+b<cells.length:=fun a b ha hb=>by
      have:(a+1)*i.size<=len*i.size:=AE _ ha
      grind
     have eU: ∀a,a<len->((cells.drop (a*i.size)).take i.size).length =i.size:=fun a ha=>by
      have:(a+1)*i.size<=len*i.size:=AE _ ha
      grind
     refine .dat len _ w.heap.size 0 i.size len (fun a b=>arr.getD (a*i.size+b) undef) (Aq _) (fun a ha=>eU a ha) (fun a b ha hb=> ?_) (fun a b ha hb=> ?_)
     .have hb':b<i.size:=(by grind);have h3:=hin a b ha hb';have e1:((cells.drop (a*i.size)).take i.size)[b]=cells[a*i.size+b]:=by
       grind
      rw [e1];have h4:a*i.size+b<arr.size:=(by grind);have e2:arr.getD (a*i.size+b) undef=arr[a*i.size+b]:=(by simp [h4]);rw [e2];have h5:=Jv 6 _ _ (As.1 hpf _ (AU h3)) (h2.2 _ h3 h4);exact h5.mono (x3e (o:=.cells arr e) hf).bare
     .have h3:=hin a b ha hb;have h4:a*i.size+b<arr.size:=(by grind);refine ⟨arr,e,(0,0),?_,?_⟩
      .show (if w.heap.size=w.heap.size then some (Obj.cells arr e) else _)=_
       grind
      .simp [h4]
   .cases hb
  .cases hb
 .cases hb
structure ZL (S:CC) (z:Nat) (P:Program) (ops:Array Oper) (cx:CN) (x:Bool×Oper) (st st':St):Prop where
 inv:Xd cx.floor st st'
 stay:(Xe z x.2.op=.pure \/Xe z x.2.op=.read \/Xe z x.2.op=.lit)->st'.mem=st.mem/\st'.next=st.next
 lift:st'.ob=true->x.1=true->Xe z x.2.op=.call -> ∀b,b<st.next->Ec S x.2.op st.eval≠some b->Yi st'.mem b=Yi st.mem b
 foot:st'.ob=true->Xe z x.2.op=.chain -> ∀b,b<st.next->EH x.2.op st.eval≠some b->Yi st'.mem b=Yi st.mem b
 fresh:st'.ob=true->(Xe z x.2.op=.alloc \/Xe z x.2.op=.birth)->x.2.guard=none-> ∃cells ty,st'.mem=Wv st.mem st.next (some ⟨cells,ty,none⟩)/\st'.next=st.next+1/\
  ∀(ρ:CF) (a:Act) (w:World) (ev:Operand->CA),(∀y,y∈x.2.op.operands->ev y=st.eval y)->Qz ρ ev a.eval x.2.op->
   ∃u vs el,el=ty/\Uy ρ cells vs/\(execOp a.eval x.2).run P w=.ok (.value u) {w with heap:=w.heap.push (.cells vs el)}/\ ∀ρ':CF,ρ' st.next=some ⟨w.heap.size,0,cells.length,vs.size⟩-> ∀d,x.2.dst=some d->VRel ρ' (st'.tmp d) u
 slot: ∀d,x.2.dst=some d->d<cx.n
 other:st'.ob=true-> ∀t,x.2.dst≠some t->st'.tmp t=st.tmp t
 does:st'.ob=true->(Xe z x.2.op=.chain \/Xe z x.2.op=.call)-> ∀(ρ:CF) (a:Act) (w:World) (ev:Operand->CA),a.tmps.size=cx.n->(∀y,y∈x.2.op.operands->ev y=st.eval y)->(∀d,Uo ops x.2=some d->VRel ρ (st.tmp d) (a.tmps.getD d undef))->Qz ρ ev a.eval x.2.op->CH ρ st.mem st.next w->
  ∀(K:Act->World->Prop) (Q:Exit->Act->World->Prop),(∀ρ' u w',(∀d,x.2.dst=some d->VRel ρ' (st'.tmp d) u)->CH ρ' st'.mem st'.next w'->Ev ρ ρ' cx.floor st.mem st.next st'.mem st'.next w w'->(∀b ab l,Ed x.2.op st.eval st.mem=some b->Yi st.mem b=some ab->ρ b=some l->Wn ρ w' ab l)->K (a.put x.2.dst u) w')->
   if Region.wanted x.2 (yielded ops a.tmps) then x.2.wp P a w K Q else K (a.put x.2.dst undef) w
 calm:st'.ob=true->(Xe z x.2.op=.pure \/Xe z x.2.op=.read)-> ∀(ρ:CF) (a:Act) (w:World) (ev:Operand->CA) (mem:CI) (next:Nat),a.tmps.size=cx.n->(∀y,y∈x.2.op.operands->ev y=st.eval y)->(∀d,Uo ops x.2=some d->VRel ρ (st.tmp d) (a.tmps.getD d undef))->Qz ρ ev a.eval x.2.op->CH ρ mem next w->
  (∀t y b ab,x.2.op=.load t y->Eg x.2.op ev=some b->Yi st.mem b=some ab->Yi mem b=some ab)-> ∀(K:Act->World->Prop) (Q:Exit->Act->World->Prop),(∀u,(∀d,x.2.dst=some d->VRel ρ (st'.tmp d) u)->K (a.put x.2.dst u) w)->
   if Region.wanted x.2 (yielded ops a.tmps) then x.2.wp P a w K Q else K (a.put x.2.dst undef) w
 lit:st'.ob=true->Xe z x.2.op=.lit -> ∀(ρ:CF) (a:Act) (w:World) (ev:Operand->CA) (mem:CI) (next:Nat),a.tmps.size=cx.n->(∀y,y∈x.2.op.operands->ev y=st.eval y)->(∀d,Uo ops x.2=some d->VRel ρ (st.tmp d) (a.tmps.getD d undef))->Qz ρ ev a.eval x.2.op->CH ρ mem next w->
  ∀(K:Act->World->Prop) (Q:Exit->Act->World->Prop),(∀ρ' u w',(∀d,x.2.dst=some d->VRel ρ' (st'.tmp d) u)->CH ρ' mem next w'->(∀b,ρ' b=ρ b)->(∀floor m,Ev ρ ρ' floor m next m next w w')->K (a.put x.2.dst u) w')->
   if Region.wanted x.2 (yielded ops a.tmps) then x.2.wp P a w K Q else K (a.put x.2.dst undef) w
theorem v7g {z:Nat} {op:Op} (h:NG z op=false) (h2:isBirth z op=false):Xe z op=Xa op:=by unfold Xe;grind
theorem v9o {o:Oper} {t:TypeId} {z:zy} (ho:o.op=.alloc t) (hz:E4 P t=some z) (a:Act) (w:World):
  ∃vs:Array Value,Uy ρ z vs/\(execOp a.eval o).run P w=.ok (.value (.pointer (some ⟨w.heap.size,0,none⟩))) {w with heap:=w.heap.push (.cells vs t)}:=by
 obtain ⟨dst,op,type,pos,after,guard⟩:=o;simp only at ho;subst ho;obtain ⟨_,zv,_,_,hzr,hzv⟩:=We (ρ:=ρ) hz;exact ⟨zv.cells,hzr,by simp_all [execOp,Instr.alloc,newVar,newRow]⟩
theorem x4p {w:World} {t:TypeId} {len:Nat} {ps:List (Nat×CA)} {qs:List (Nat×Value)} {cells:zy} {e:TypeId} {sz:Nat} (hb:w4l P t len ps=some (cells,e,sz)) (hp:Iz ρ ps qs):
  ∃vs el,el=e/\Uy ρ cells vs/\(Instr.buildSlice t len qs.toArray).run P w=.ok (.slice (some ⟨w.heap.size,0,none⟩) len len) {w with heap:=w.heap.push (.cells vs el)}/\cells.length=len*sz/\vs.size=len*sz:=by
 unfold w4l at hb;split at hb
 .rename_i e hu;split at hb
  .rename_i i zero hi hz;obtain ⟨hc,hb⟩:=Zi hb;simp only [Ac] at hc;obtain ⟨⟨hl1,hs1⟩,hle,hzl⟩:=hc;have hl1:=Ak hl1;have hs1:=Ak hs1;have hle:=Ak hle;have hzl:=Ai hzl;split at hb
   .rename_i cells eQ;obtain ⟨hn,hb⟩:=Zi hb;have hn:=Ai hn;simp only [Ae,Ad] at hb;obtain ⟨rfl,rfl,rfl⟩:=hb;obtain ⟨_,z,_,_,hzr,hzv⟩:=We (ρ:=ρ) hz;have fT:=RM hzr len (len*i.size) (by rw [hzl]);obtain ⟨arr,h1,h2⟩:=Qd eQ fT hp;have hsz:arr.size=len*i.size:=(by rw [<-h2.1,hn]);have hgt': ¬2 ^ 24<len*i.size:=(by omega);have hpos:0<len*i.size:=Nat.mul_pos (by omega) (by omega);have h0: ¬len*i.size=0:=(by omega);have hsz0: ¬i.size=0:=(by omega);exact ⟨arr,e,rfl,h2,by simp [Instr.buildSlice,run_underlying hu,Yz hi,h0,hsz0,hzv,h1,newRow,hgt'],hn,hsz⟩
   .cases hb
  .cases hb
 .cases hb
theorem x1h (op:Op):Xa op≠ .lit :=by
 cases op with
 | call c=>
  obtain ⟨callee,args,argTypes⟩:=c;cases callee with
  | builtin b=>cases b <;> exact fun h=>by cases h
  | value f=>exact fun h=>by cases h
  | invoke r m=>exact fun h=>by cases h
 | _=>exact fun h=>by cases h
theorem y3l (op:Op):Xa op≠ .birth :=by
 cases op with
 | call c=>
  obtain ⟨callee,args,argTypes⟩:=c;cases callee with
  | builtin b=>cases b <;> exact fun h=>by cases h
  | value f=>exact fun h=>by cases h
  | invoke r m=>exact fun h=>by cases h
 | _=>exact fun h=>by cases h
theorem w8b {S:CC} {R:CK} (hN:EL P) (hS:Zu P S) (hRI:Et R) (hR:Gd P R) {z:Nat} {ops:Array Oper} {x:Bool×Oper} {cx:CN} {st st':St} (hcx:cx.floor<=st.next) (h:Mw z P S R ops cx x st=some st'):
  ZL S z P ops cx x st st':=by
 unfold Mw at h;cases hz:NG z x.2.op with
 | false=>
  rw [hz,Aa] at h;cases hz2:isBirth z x.2.op with
  | false=>
   rw [hz2,Aa] at h;have s:=x0o hN hS hRI hR hcx h;have hk:=v7g hz hz2;refine ⟨s.inv,fun k=> ?_,?_,?_,?_,s.slot,s.other,fun ho _=>s.does ho,fun ho k=>s.calm ho (by grind),fun _ k=> ?_⟩
   .rw [hk] at k;rcases k with k | k | k
    .exact s.stay (.inl k)
    .exact s.stay (.inr k)
    .exact absurd k (x1h _)
   .rw [hk];exact s.lift
   .rw [hk];exact s.foot
   .intro _ k hg;have k:Xa x.2.op=.alloc :=by
     grind [y3l]
    obtain ⟨t,z0,e1,e2,e3,e4,e5⟩:=s.alloc k hg;refine ⟨z0,t,e3,e4,fun ρ a w ev _ _=> ?_⟩;obtain ⟨vs,hvs,eO⟩:=v9o (P:=P) (ρ:=ρ) e1 e2 a w;exact ⟨_,vs,t,rfl,hvs,eO,fun ρ' hρ d hd=>by rw [e5 d hd];exact .ptr _ 0 _ hρ⟩
   grind [x1h]
  | true=>
   rw [hz2,Ab] at h;have hk:Xe z x.2.op=.birth :=by unfold Xe;grind
   obtain ⟨lf,o⟩:=x;obtain ⟨dst,op,type,pos,after,guard⟩:=o;simp only at h hz hz2 hk ⊢;cases op with
   | buildSlice t len parts=>
    split at h
    .cases h
    .rename_i st1 hw;obtain ⟨w1,w2,w3⟩:=Wd hw;unfold y8k at h;simp only at h;split at h
     .rename_i cells e sz hv;obtain ⟨p1,p2,p3,p4⟩:=Vz h;have fW: ∀d,dst=some d->st'.tmp d=.sl st1.next 0 len (bif cx.sym then .un sz else .ex len):=fun d hd=>by
       rcases p4 with ⟨e,_⟩ | ⟨d',e,_,he⟩
       .grind
       .rw [hd] at e;obtain rfl:=Ag e;show T.get .undef st'.env d=_;rw [he,T.get_set,AF rfl]
      have hi1:Xd cx.floor st st1:=Xd.same w1 w2 fun ho=>(w3 ho).1;have hi2:Xd cx.floor (Cy st1 cells e) st':=Xd.same p1 p2 fun ho=>by grind
      obtain ⟨env1,F1,next1,orc1,ob1⟩:=st1;simp only [Cy] at p1 p2 p3 p4;simp only at w1 w2 fW;refine ⟨(hi1.trans (Xd.new _ _ _)).trans hi2,(fun k=>by grind),(fun _ _ k=>by grind),(fun _ k=>by grind),fun ho _ _=> ?_,fun d hd=> ?_,fun ho t ht=> ?_,(fun _ k=>by grind),(fun _ k=>by grind),(fun _ k=>by grind)⟩
      .have ho1:ob1=true:=(by grind);have eX:=(w3 ho1).2;refine ⟨cells,e,by grind,by rw [p2,w2],fun ρ a w ev hev hr=> ?_⟩;have fZ: ∀y,St.eval ⟨env1,F1,next1,orc1,ob1⟩ y=st.eval y:=fun y=>by cases y <;> first | rfl | exact eX _
       have hpr:Iz ρ (parts.toList.map fun p=>(p.1,St.eval ⟨env1,F1,next1,orc1,ob1⟩ p.2)) (parts.toList.map fun p=>(p.1,a.eval p.2)):=W0 parts.toList fun p hp=>by have hm:p.2∈(Op.buildSlice t len parts).operands :=(by grind [Op.operands]);rw [fZ p.2,<-hev p.2 hm];exact hr p.2 hm
       obtain ⟨vs,el,hel,hvs,eO,hn1,hn2⟩:=x4p (w:=w) hv hpr;have hpa:(parts.map fun (i,x)=>(i,a.eval x))=(parts.toList.map fun p=>(p.1,a.eval p.2)).toArray :=by
        grind
       refine ⟨.slice (some ⟨w.heap.size,0,none⟩) len len,vs,el,hel,hvs,by simp [execOp,hpa,eO],fun ρ' hρ d hd=> ?_⟩;rw [fW d hd,w2];refine .sl _ 0 len _ ⟨w.heap.size,0,cells.length,vs.size⟩ len hρ ?_ (Aq _);cases cx.sym with
       | true=>exact ⟨by grind,by grind⟩
       | false=>exact rfl
      .grind
      .have ho1:ob1=true:=(by grind);rw [<-(w3 ho1).2 t];show T.get .undef st'.env t=T.get .undef env1 t
       grind [T.get_set]
     .cases h
    .rename_i st1 hw;obtain ⟨w1,w2,w3⟩:=Wd hw;obtain ⟨p1,p2,p3,p4⟩:=Vz h;have hi1:Xd cx.floor st st1:=Xd.same w1 w2 fun ho=>(w3 ho).1;have hi2:Xd cx.floor st1 st':=Xd.same p1 p2 fun ho=>by grind
     refine ⟨hi1.trans hi2,(fun k=>by grind),(fun _ _ k=>by grind),(fun _ k=>by grind),fun _ _ hg=> ?_,fun d hd=> ?_,fun ho t ht=> ?_,(fun _ k=>by grind),(fun _ k=>by grind),(fun _ k=>by grind)⟩
     .grind [Ks,HW]
     .grind
     .have ho1:st1.ob=true:=(by grind);rw [<-(w3 ho1).2 t];show T.get .undef st'.env t=T.get .undef st1.env t
      grind [T.get_set]
   | _=>cases hz2
 | true=>
  rw [hz,Ab] at h;have hk:Xe z x.2.op=.lit :=by unfold Xe;rw [hz];rfl
  obtain ⟨lf,o⟩:=x;obtain ⟨dst,op,type,pos,after,guard⟩:=o;simp only at h hz hk ⊢;cases op with
  | buildSlice t len parts=>
   split at h
   .cases h
   .rename_i st1 hw;obtain ⟨w1,w2,w3⟩:=Wd hw;unfold w1s at h;simp only at h;split at h
    .rename_i v hv;obtain ⟨p1,p2,p3,p4⟩:=Vz h;have fW: ∀d,dst=some d->st'.tmp d=v:=fun d hd=>by
      rcases p4 with ⟨e,_⟩ | ⟨d',e,_,he⟩
      .grind
      .rw [hd] at e;obtain rfl:=Ag e;show T.get .undef st'.env d=v;rw [he,T.get_set,AF rfl]
     have hi1:Xd cx.floor st st1:=Xd.same w1 w2 fun ho=>(w3 ho).1;have hi2:Xd cx.floor st1 st':=Xd.same p1 p2 fun ho=>by grind
     refine ⟨hi1.trans hi2,fun _=>⟨p1.trans w1,p2.trans w2⟩,(fun _ _ k=>by grind),(fun _ k=>by grind),(fun _ k=>by grind),fun d hd=> ?_,fun ho t ht=> ?_,(fun _ k=>by grind),(fun _ k=>by grind),fun ho _ ρ a w ev mem next hsz hev hgr hr eI K Q hK=> ?_⟩
     .grind
     .have ho1:st1.ob=true:=(by grind);rw [<-(w3 ho1).2 t];show T.get .undef st'.env t=T.get .undef st1.env t
      grind [T.get_set]
     .have ho1:st1.ob=true:=(by grind);have eX:=(w3 ho1).2;have fZ: ∀y,st1.eval y=st.eval y:=fun y=>by cases y <;> first | rfl | exact eX _
      rw [Up hw ho1 hsz hgr,AF rfl];have hpr:Iz ρ (parts.toList.map fun p=>(p.1,st1.eval p.2)) (parts.toList.map fun p=>(p.1,a.eval p.2)):=W0 parts.toList fun p hp=>by have hm:p.2∈(Op.buildSlice t len parts).operands :=(by grind [Op.operands]);rw [fZ p.2,<-hev p.2 hm];exact hr p.2 hm
      obtain ⟨u,vs,el,eO,hu⟩:=w4f hv hpr (eI.hold w.heap.size (Aq _));have:(parts.map fun (i,x)=>(i,a.eval x))=(parts.toList.map fun p=>(p.1,a.eval p.2)).toArray :=by
       grind
      unfold Oper.wp;have hrun':(execOp a.eval ⟨dst,.buildSlice t len parts,type,pos,after,guard⟩).run P w=.ok (.value u) {w with heap:=w.heap.push (.cells vs el)}:=by simp [execOp,this,eO]
      rw [hrun'];exact hK _ u _ (fun d hd=>by grind) (eI.froze vs el) (fun _=>rfl) fun floor m=>Ev.froze eI floor m vs el
    .cases h
   .rename_i st1 hw;obtain ⟨w1,w2,w3⟩:=Wd hw;obtain ⟨p1,p2,p3,p4⟩:=Vz h;have fW: ∀d,dst=some d->st'.tmp d=.tup []:=fun d hd=>by
     rcases p4 with ⟨e,_⟩ | ⟨d',e,_,he⟩
     .grind
     .rw [hd] at e;obtain rfl:=Ag e;show T.get .undef st'.env d=_;rw [he,T.get_set,AF rfl]
    have hi1:Xd cx.floor st st1:=Xd.same w1 w2 fun ho=>(w3 ho).1;have hi2:Xd cx.floor st1 st':=Xd.same p1 p2 fun ho=>by grind
    refine ⟨hi1.trans hi2,fun _=>⟨p1.trans w1,p2.trans w2⟩,(fun _ _ k=>by grind),(fun _ k=>by grind),(fun _ k=>by grind),fun d hd=> ?_,fun ho t ht=> ?_,(fun _ k=>by grind),(fun _ k=>by grind),fun ho _ ρ a w ev mem next hsz hev hgr hr eI K Q hK=> ?_⟩
    .grind
    .have ho1:st1.ob=true:=(by grind);rw [<-(w3 ho1).2 t];show T.get .undef st'.env t=T.get .undef st1.env t
     grind [T.get_set]
    .have ho1:st1.ob=true:=(by grind);rw [Up hw ho1 hsz hgr,Az Bool.false_ne_true];exact hK ρ undef w (fun d hd=>by rw [fW d hd];exact .tup [] #[] rfl fun i h1 _=>by simp at h1) eI (fun _=>rfl) fun floor m=>Ev.refl _ _ _ _ _ eI.dom
  | _=>cases hz
end
section
variable {ops:Array Oper}
def HT (ops:Array Oper) (S:Nat->Bool):Prop:= ∀j o,ops[j]? =some o->S j=true-> ∀e∈o.after.toList,Region.binds .any e=true->S e.on=true
def HY (S:Nat->Bool) (o:Oper):Prop:= ∀e∈o.after.toList,Region.binds .any e=true->S e.on=true
def JI (ops:Array Oper) (i:Nat) (o:Oper):Prop:= ∀S,HT ops S->HY S o->S i=true
theorem x7b (acc:zt) (i:Nat): ∀(es:List Edge) (s:Nat),(es.foldl (fun s e=>bif Region.binds .any e then s||| (2 ^ e.on)||| acc.getD e.on 0 else s) s).testBit i=true->
  s.testBit i=true\/ ∃e∈es,Region.binds .any e=true/\(e.on=i\/(acc.getD e.on 0).testBit i=true)
 | [],s,h=>.inl h
 | e::es,s,h=>by
  simp only [List.foldl_cons] at h;rcases x7b acc i es _ h with h | ⟨e',he',h1,h2⟩;all_goals grind
theorem x7n (gD: ∀(j:Nat) o,ops[j]? =some o-> ∀e∈o.after.toList,Region.binds .any e=true->e.on<j): ∀(l:List Oper) (acc:zt),acc.length+l.length=ops.size->(∀k,l[k]? =ops[acc.length+k]?)->
  (∀k o,k<acc.length->ops[k]? =some o-> ∀i,(acc.getD k 0).testBit i=true->i<k/\JI ops i o)->
  ∀k o,ops[k]? =some o-> ∀i,((FR l acc).getD k 0).testBit i=true->i<k/\JI ops i o
 | [],acc,eK,_,gQ,k,o,ho,i,h=>by have hk:k<ops.size:=(AC.1 ho).1;simp at eK;exact gQ k o (by omega) ho i h
 | x::l,acc,eK,hl,gQ,k,o,ho,i,h=>by
  unfold FR at h;refine x7n gD l (acc++[x.after.toList.foldl (fun s e=>bif Region.binds .any e then s||| (2 ^ e.on)||| acc.getD e.on 0 else s) 0]) (by grind) (fun k=>by
   have:=hl (k+1)
   simpa [AK,Nat.add_comm 1 k] using this) (fun k' o' hk' ho' i' hi'=> ?_) k o ho i h
  by_cases hlt:k'<acc.length
  .refine gQ k' o' hlt ho' i' ?_
   grind
  .have hk2:k'=acc.length:=by grind
   subst hk2;have hx:ops[acc.length]? =some x:=by simpa using (hl 0).symm
   rw [hx] at ho';obtain rfl:=Ag ho';have hg:(acc++[x.after.toList.foldl (fun s e=>bif Region.binds .any e then s||| (2 ^ e.on)||| acc.getD e.on 0 else s) 0]).getD acc.length 0=x.after.toList.foldl (fun s e=>bif Region.binds .any e then s||| (2 ^ e.on)||| acc.getD e.on 0 else s) 0:=by
    grind
   rw [hg] at hi';rcases x7b acc i' _ _ hi' with h0 | ⟨e,he,hb,h1⟩
   .simp at h0
   .have hlt':=gD _ _ hx e he hb;rcases h1 with rfl | h1
    .exact ⟨hlt',fun S _ hr=>hr e he hb⟩
    .have ho2:ops[e.on]? =some (ops[e.on]'(by grind)):=(by simp);obtain ⟨q1,q2⟩:=gQ e.on _ hlt' ho2 i' h1;exact ⟨by omega,fun S hc hr=>q2 S hc fun e' he' hb'=>hc e.on _ ho2 (hr e he hb) e' he' hb'⟩
theorem x3v {z:Nat} {op:Op} {k:Ff} (hk:k≠ .lit) (hb:k≠ .birth):Xe z op=k↔Xa op=k/\NG z op=false/\isBirth z op=false:=by
 grind [Xe]
theorem w2g {z:Nat} {op:Op} (h:NG z op=true):Xa op=.chain :=by
 cases op <;> first | rfl | (cases h;done)
theorem x3w {z:Nat} {op:Op} (h:isBirth z op=true):Xa op=.chain :=by
 cases op <;> first | rfl | (cases h;done)
theorem x6r {z:Nat} {op:Op} {k:Ff} (hk:k≠ .lit) (hb:k≠ .birth) (hc:k≠ .chain):Xe z op=k↔Xa op=k:=by
 rw [x3v hk hb]
 grind [w2g,x3w]
theorem WZ {z:Nat} {op:Op}:Xe z op=.alloc ↔Xa op=.alloc :=x6r (fun h=>by cases h) (fun h=>by cases h) fun h=>by cases h
theorem x1g {z:Nat} {op:Op}:Xe z op=.read ↔Xa op=.read :=x6r (fun h=>by cases h) (fun h=>by cases h) fun h=>by cases h
theorem y7l {z:Nat} {op:Op} (h:Xe z op=.birth):isBirth z op=true:=by
 grind [Xe,y3l]
structure v9z (z:Nat) (ops:Array Oper):Prop where
 ord: ∀(j:Nat) o,ops[j]? =some o-> ∀e∈o.after.toList,Region.binds .any e=true->e.on<j
 guard: ∀(j:Nat) o,ops[j]? =some o->(Xe z o.op=.alloc \/Xe z o.op=.birth)->o.guard=none
 bits: ∀(j:Nat) o,ops[j]? =some o-> ∀i,((FR ops.toList []).getD j 0).testBit i=true->i<j/\JI ops i o
 pair: ∀(i j:Nat) p o,i<j->ops[i]? =some p->ops[j]? =some o->JI ops i o\/(p.apart ops o=true/\w1y (Xe z p.op) (Xe z o.op)=true/\(Xe z o.op=.read ->EM ops i=true)/\(Xe z p.op=.read ->EM ops j=true))
 dst: ∀(i j:Nat) p o d,i<j->ops[i]? =some p->ops[j]? =some o->p.dst=some d->o.dst≠some d
 alloc: ∀(i j:Nat) p o,i<j->ops[i]? =some p->ops[j]? =some o->Xe z o.op=.alloc ->p.apart ops o=true
 birth: ∀(i j:Nat) p o,i<j->ops[i]? =some p->ops[j]? =some o->Xe z o.op=.birth -> ¬(Xe z p.op=.chain \/Xe z p.op=.call)
theorem z8k {z:Nat} (h:Mq z ops=true):v9z z ops:=by
 have hj: ∀(j:Nat) o,ops[j]? =some o->(o.after.toList.all (fun e=> !Region.binds .any e||Nat.ble (e.on+1) j)=true/\(!(Xa o.op == .alloc ||isBirth z o.op)||o.guard.isNone)=true)/\ ∀(i:Nat) p,i<j->ops[i]? =some p->ZH z ops i j p o=true:=by
  intro j o ho;have hlt:j<ops.size:=(AC.1 ho).1;have:=As.1 h j (AL.2 hlt)
  grind
 have ord: ∀(j:Nat) o,ops[j]? =some o-> ∀e∈o.after.toList,Region.binds .any e=true->e.on<j:=by intro j o ho e he hb;have:=As.1 (hj j o ho).1.1 e he;rw [hb] at this;exact Ak (by grind)
 have bits:=x7n ord ops.toList [] (by simp) (fun k=>by simp) (fun k o hk=>by simp at hk);refine ⟨ord,fun j o ho hk=> ?_,fun j o ho i hb=>bits j o ho i hb,fun i j p o hij hp ho=> ?_,fun i j p o d hij hp ho hd=> ?_,fun i j p o hij hp ho hk=> ?_,fun i j p o hij hp ho hk hc=> ?_⟩
 .have:=(hj j o ho).1.2;rcases hk with hk | hk;all_goals simp_all [WZ,y7l]
 .have hpo:=(hj j o ho).2 i p hij hp;unfold ZH at hpo;simp only [Ac,Bv] at hpo;cases hb:((FR ops.toList []).getD j 0).testBit i with
  | true=>grind
  | false=>
   right;rcases hpo.1.1.1 with h1 | ⟨h1,h2⟩
   .grind
   .have hi:i<ops.size:=(AC.1 hp).1;have hjl:j<ops.size:=(AC.1 ho).1;refine ⟨h1,h2,fun hr=> ?_,fun hr=> ?_⟩
    .unfold EM;rw [BQ];refine ⟨j,AL.2 hjl,?_⟩;rw [ho,Option.any_some,x1g.1 hr,hb];have:Nat.ble (i+1) j=true:=AX hij
     grind
    .unfold EM;rw [BQ];refine ⟨i,AL.2 hi,?_⟩;rw [hp,Option.any_some,x1g.1 hr,hb];have:Nat.ble (i+1) j=true:=AX hij
     grind
 all_goals grind [ZH,WZ,y7l]
theorem Je {z:Nat} {i:Nat} {o:Oper} (ho:ops[i]? =some o):isAlloc ops i=true↔Xe z o.op=.alloc :=by
 grind [WZ,isAlloc]
theorem y0n (i:Nat):i∈Ya ops↔i<ops.size:=by
 grind [Ya]
theorem Xr :(Ya ops).length =ops.size:=by
 unfold Ya;rw [AO,<-List.countP_eq_length_filter,<-List.countP_eq_length_filter];have:=List.length_eq_countP_add_countP (isAlloc ops) (l:=List.range ops.size)
 grind
def Ord (ops:Array Oper) (i j:Nat):Prop:=(isAlloc ops i=true/\isAlloc ops j=false)\/(isAlloc ops i=isAlloc ops j/\i<j)
theorem y0m :(Ya ops).Pairwise (Ord ops):=by
 unfold Ya;rw [BV];have hr:(List.range ops.size).Pairwise (· < ·):=List.pairwise_lt_range;refine ⟨?_,?_,?_⟩
 .refine ((hr.filter _).imp_of_mem fun {a b} ha hb h=> ?_);have h1:=(Bq.1 ha).2;have h2:=(Bq.1 hb).2;exact .inr ⟨h1.trans h2.symm,h⟩
 .refine ((hr.filter _).imp_of_mem fun {a b} ha hb h=> ?_);have h1:=(Bq.1 ha).2;have h2:=(Bq.1 hb).2;refine .inr ⟨?_,h⟩
  grind
 .intro a ha b hb;have h1:=(Bq.1 ha).2;have h2:=(Bq.1 hb).2;exact .inl ⟨h1,by grind⟩
theorem x4e {k1 k2:Nat} (h:k1<k2) (h2:k2<(Ya ops).length):Ord ops ((Ya ops)[k1]'(by omega)) (Ya ops)[k2]:=
 Br.1 y0m k1 k2 (by omega) h2 h
end
def TD (ops:Array Oper) (x y:Dj):Prop:=clash x.2.1 y.2.2=true\/clash x.2.2 y.2.1=true->ordered ops x.1 y.1=true
theorem w2t {ops:Array Oper} {x y:Dj} (h:ZB ops x y=true):TD ops x y:=by
 intro hc
 grind [ZB]
theorem z3j {z:Nat} {P:Program} {S:CC} {R:CK} {ops:Array Oper} {cx:CN}: ∀(l:List (Nat×Bool×Oper)) (acc:List Dj) (st st':St),RJ z P S R ops cx l acc st=some st'->
  ∃f:Nat->St,f 0=st/\f l.length=st'/\(∀(k:Nat) (h:k<l.length),Mw z P S R ops cx l[k].2 (f k)=some (f (k+1)))/\
   (∀(k:Nat) (h:k<l.length),∀y∈acc,TD ops (GF S l[k] (f k).eval) y\/lateF z ops l[k] (f k).eval (f k).mem y=true)/\
   ∀(q k:Nat) (hq:q<k) (h:k<l.length),TD ops (GF S l[k] (f k).eval) (GF S (l[q]'(by omega)) (f q).eval)\/lateF z ops l[k] (f k).eval (f k).mem (GF S (l[q]'(by omega)) (f q).eval)=true
 | [],acc,st,st',h=>by have h:some st=some st':=h;obtain rfl:=Ag h;exact ⟨fun _=>st,rfl,rfl,fun k h=>by simp at h,fun k h=>by simp at h,fun q k _ h=>by simp at h⟩
 | x::l,acc,st,st',h=>by
  have h:(bif acc.all (fun y=>ZB ops (GF S x st.eval) y||lateF z ops x st.eval st.mem y) then
    match Mw z P S R ops cx x.2 st with
    | some st'=>RJ z P S R ops cx l (GF S x st.eval::acc) st'
    | none=>none
   else none)=some st':=h
  obtain ⟨gQ,h⟩:=Zi h;split at h
  .rename_i st1 h1;obtain ⟨f,f0,fn,fs,fa,fp⟩:=z3j l _ st1 st' h;refine ⟨fun k=>match k with | 0=>st | k+1=>f k,rfl,fn,fun k hk=> ?_,fun k hk y hy=> ?_,fun q k hqk hk=> ?_⟩;all_goals grind [w2t]
  .cases h
theorem x5a {S:CC} {op:Op} (h:Xa op=.chain) (ev:Operand->CA):Ec S op ev=EH op ev:=by
 cases op with
 | call c=>
  obtain ⟨callee,args,argTypes⟩:=c;cases callee with
  | value f=>cases h
  | _=>rfl
 | _=>rfl
theorem z3v (p q:Nat->Bool) (i:Nat): ∀(n:Nat),(∀k,k≠i->q k=p k)->p i=true->q i=false->i<n->(List.range n).countP q+1=(List.range n).countP p
 | 0,_,_,_,h=>absurd h (AD _)
 | n+1,hpq,hp,hq,h=>by
  rw [Bw,List.countP_append,List.countP_append];by_cases hi:i<n
  .have:=z3v p q i n hpq hp hq hi
   grind
  .have hin:i=n:=by omega
   subst hin;have e:(List.range i).countP q=(List.range i).countP p:=List.countP_congr fun k hk=>by
    grind
   grind
section
variable {P:Program}
theorem CH.unborn {ρ:CF} {mem:CI} {next:Nat} {w:World} (h:CH ρ mem next w) (o:Option CG):CH ρ (Wv mem next o) (next+1) w:=by
 have ne: ∀b l,ρ b=some l->b≠next:=fun b l e=>by have:=h.dom b l e;omega
 refine ⟨fun b l e=>by have:=h.dom b l e;omega,fun b b' l l' e e' he hs hs'=> ?_,fun b l ab e hm=> ?_,h.old,fun b l e hs=>h.sep b l e (by rwa [Zw _ _ (ne b l e)] at hs),h.real,fun b hb=>by rw [Zw _ _ (by omega)];exact h.bd b (by omega),⟨fun j l e=>Bs (h.ldom.1 j l e),h.ldom.2⟩⟩
 .rw [Zw _ _ (ne b l e)] at hs;rw [Zw _ _ (ne b' l' e')] at hs';exact h.inj b b' l l' e e' he hs hs'
 .rw [Zw _ _ (ne b l e)] at hm;exact h.blk b l ab e hm
theorem CH.birth {ρ:CF} {mem:CI} {next:Nat} {w:World} (h:CH ρ mem next w) {b:Nat} {cs:zy} {ty:TypeId} (hb:b<next) (hn:ρ b=none) (hm:Yi mem b=some ⟨cs,ty,none⟩) {vs:Array Value} (el:TypeId) (hv:Uy ρ cs vs) (hel:el=ty):
  CH (Vn ρ b ⟨w.heap.size,0,cs.length,vs.size⟩) mem next {w with heap:=w.heap.push (.cells vs el)}:=by
 have hle:=Qs (l:=⟨w.heap.size,0,cs.length,vs.size⟩) hn;have eU: ∀c l,Vn ρ b ⟨w.heap.size,0,cs.length,vs.size⟩ c=some l->(c=b/\l=⟨w.heap.size,0,cs.length,vs.size⟩)\/(c≠b/\ρ c=some l):=fun c l e=>by
  grind [Uv]
 refine ⟨fun c l e=> ?_,fun c c' l l' e e' hbl hs hs'=> ?_,fun c l ab e hc=> ?_,fun k o e=> ?_,fun c l e=> ?_,fun c l e=> ?_,h.bd,h.ldom⟩
 .rcases eU c l e with ⟨rfl,_⟩ | ⟨_,e⟩
  .exact hb
  .exact h.dom c l e
 .rcases eU c l e with ⟨hc,hl⟩ | ⟨hc,e2⟩ <;> rcases eU c' l' e' with ⟨hc',hl'⟩ | ⟨hc',e2'⟩
  .rw [hc,hc']
  .have:=h.real c' l' e2';grind
  .have:=h.real c l e2;grind
  .exact h.inj c c' l l' e2 e2' hbl hs hs'
 .rcases eU c l e with ⟨rfl,rfl⟩ | ⟨_,e⟩
  .rw [hm] at hc;obtain rfl:=Ag hc;have h1:=hv.1;refine .plain ⟨by simp [hel],rfl,by grind,(fun A e=>by cases e),vs,el,by simp,by simp,fun i hi=> ?_⟩;have h2:i<vs.size:=by grind
   exact ⟨vs[i],by grind,(hv.2 i hi h2).mono hle⟩
  .refine (h.blk c l ab e hc).world hle ?_;have:=h.real c l e
   grind
 .have hk:=h.old k o e
  grind
 .intro hs;rcases eU c l e with ⟨rfl,rfl⟩ | ⟨_,e⟩
  .exact h.hold _ (Aq _)
  .exact h.sep c l e hs
 .rcases eU c l e with ⟨rfl,rfl⟩ | ⟨_,e⟩
  .simp
  .have:=h.real c l e;simp;omega
structure DY (S:CC) (z:Nat) (P:Program) (ops:Array Oper) (cx:CN) (st:St) (f:Nat->St):Prop where
 chk:v9z z ops
 f0:f 0=st
 hcx:cx.floor<=st.next
 ob: ∀k,k<=ops.size->(f k).ob =true
 step: ∀(k:Nat) (h:k<(Ya ops).length),ZL S z P ops cx (EM ops (Ya ops)[k],ops.getD (Ya ops)[k] default) (f k) (f (k+1))
 foot: ∀(q k:Nat) (hq:q<k) (h:k<(Ya ops).length),TD ops (GF S ((Ya ops)[k],EM ops (Ya ops)[k],ops.getD (Ya ops)[k] default) (f k).eval) (GF S ((Ya ops)[q],EM ops (Ya ops)[q],ops.getD (Ya ops)[q] default) (f q).eval)\/
  lateF z ops ((Ya ops)[k],EM ops (Ya ops)[k],ops.getD (Ya ops)[k] default) (f k).eval (f k).mem (GF S ((Ya ops)[q],EM ops (Ya ops)[q],ops.getD (Ya ops)[q] default) (f q).eval)=true
variable {Sp:CC} {z:Nat} {ops:Array Oper} {cx:CN} {st:St} {f:Nat->St}
def at_ (ops:Array Oper) (k:Nat):Nat:=(Ya ops).getD k ops.size
theorem ZN {k:Nat} (h:k<ops.size):at_ ops k<ops.size:=by
 have hl:k<(Ya ops).length :=by rw [Xr];exact h
 have:at_ ops k=(Ya ops)[k]:=by simp [at_,hl]
 rw [this];exact (y0n _).1 (AU hl)
theorem FH {k1 k2:Nat} (h:k1<k2) (h2:k2<ops.size):Ord ops (at_ ops k1) (at_ ops k2):=by
 grind [Xr,x4e,at_]
theorem j9o {i:Nat} (h:i<ops.size): ∃k,k<ops.size/\at_ ops k=i:=by obtain ⟨k,hk,e⟩:=AQ ((y0n (ops:=ops) i).2 h);exact ⟨k,by rw [Xr] at hk;exact hk,by simp [at_,hk,e]⟩
theorem DY.step' (g:DY Sp z P ops cx st f) {k:Nat} (h:k<ops.size): ∃o,ops[at_ ops k]? =some o/\ZL Sp z P ops cx (EM ops (at_ ops k),o) (f k) (f (k+1)):=by
 have hl:k<(Ya ops).length :=by rw [Xr];exact h
 have e:at_ ops k=(Ya ops)[k]:=by simp [at_,hl]
 have hlt:=ZN h;refine ⟨ops[at_ ops k],by simp [hlt],?_⟩;have:=g.step k hl;rw [<-e] at this;have hd:ops.getD (at_ ops k) default=ops[at_ ops k]:=by simp [hlt]
 grind
theorem DY.foot' (g:DY Sp z P ops cx st f) {q k:Nat} (hq:q<k) (h:k<ops.size) {o x:Oper} (ho:ops[at_ ops k]? =some o) (hx:ops[at_ ops q]? =some x):
  TD ops (at_ ops k,Eg o.op (f k).eval,Ec Sp o.op (f k).eval) (at_ ops q,Eg x.op (f q).eval,Ec Sp x.op (f q).eval)\/lateF z ops (at_ ops k,EM ops (at_ ops k),o) (f k).eval (f k).mem (at_ ops q,Eg x.op (f q).eval,Ec Sp x.op (f q).eval)=true:=by
 have hl:k<(Ya ops).length :=by rw [Xr];exact h
 have hl2:q<(Ya ops).length :=by omega
 have e:at_ ops k=(Ya ops)[k]:=by simp [at_,hl]
 have e2:at_ ops q=(Ya ops)[q]:=by simp [at_,hl2]
 have:=g.foot q k hq hl;rw [<-e,<-e2] at this;have hd:ops.getD (at_ ops k) default=o:=by simp [ho]
 have hd2:ops.getD (at_ ops q) default=x:=by simp [hx]
 rw [hd,hd2] at this;exact this
theorem DY.next_le (g:DY Sp z P ops cx st f): ∀{a b:Nat},a<=b->b<=ops.size->(f a).next <=(f b).next :=by
 intro a b hab hb
 induction b with
 | zero=>grind
 | succ b ih=>
  by_cases e:a=b+1
  .grind
  .obtain ⟨o,_,s⟩:=g.step' (k:=b) (by omega);exact AI (ih (by omega) (by omega)) s.inv.nxt
theorem DY.bd (g:DY Sp z P ops cx st f) (h0: ∀b,st.next<=b->Yi st.mem b=none): ∀{k:Nat},k<=ops.size-> ∀b,(f k).next <=b->Yi (f k).mem b=none:=by
 intro k hk
 induction k with
 | zero=>rw [g.f0];exact h0
 | succ k ih=>obtain ⟨o,_,s⟩:=g.step' (k:=k) (by omega);exact s.inv.bd (ih (by omega))
theorem DY.slot_stays (g:DY Sp z P ops cx st f) {t:Tmp}: ∀{a b:Nat},a<=b->b<=ops.size->(∀k o,a<=k->k<b->ops[at_ ops k]? =some o->o.dst≠some t)->(f b).tmp t=(f a).tmp t:=by
 intro a b hab hb hno
 induction b with
 | zero=>grind
 | succ b ih=>
  by_cases e:a=b+1
  .subst e;rfl
  .obtain ⟨o,ho,s⟩:=g.step' (k:=b) (by omega);rw [s.other (g.ob _ hb) t (hno b o (by omega) (by omega) ho)]
   grind
def EP (z:Nat) (o:Oper):Prop:=Xe z o.op=.chain \/Xe z o.op=.call
def NO (z:Nat) (o:Oper):Prop:=Xe z o.op=.pure \/Xe z o.op=.lit
def Ek (z:Nat) (o:Oper):Prop:=Xe z o.op=.alloc \/Xe z o.op=.birth
theorem NL (z:Nat) (o:Oper):NO z o\/Xe z o.op=.read \/Ek z o\/EP z o:=by unfold EP NO Ek;cases Xe z o.op <;> simp
theorem DY.mem_stays (g:DY Sp z P ops cx st f): ∀{a b:Nat},a<=b->b<=ops.size->(∀k o,a<=k->k<b->ops[at_ ops k]? =some o->NO z o\/Xe z o.op=.read)->(f b).mem =(f a).mem /\(f b).next =(f a).next :=by
 intro a b hab hb hno
 induction b with
 | zero=>grind
 | succ b ih=>
  by_cases e:a=b+1
  .grind
  .obtain ⟨o,ho,s⟩:=g.step' (k:=b) (by omega);obtain ⟨e1,e2⟩:=s.stay (by rcases hno b o (by omega) (by omega) ho with (k | k) | k <;> simp [k])
   grind
theorem DY.blk_stays (g:DY Sp z P ops cx st f) {x:Nat}: ∀{a b:Nat},a<=b->b<=ops.size->x<(f a).next ->
  (∀k o,a<=k->k<b->ops[at_ ops k]? =some o->NO z o\/Xe z o.op=.read \/(Xe z o.op=.call /\EM ops (at_ ops k)=true/\Ec Sp o.op (f k).eval ≠some x)\/(Xe z o.op=.chain /\EH o.op (f k).eval ≠some x)\/Ek z o)->Yi (f b).mem x=Yi (f a).mem x:=by
 intro a b hab hb hx hno
 induction b with
 | zero=>grind
 | succ b ih=>
  by_cases e:a=b+1
  .subst e;rfl
  .obtain ⟨o,ho,s⟩:=g.step' (k:=b) (by omega);have ih:=ih (by omega) (by omega) fun k o h1 h2=>hno k o h1 (by omega);rw [<-ih];rcases hno b o (by omega) (by omega) ho with h1 | h1 | ⟨h1,h2,h3⟩ | ⟨h1,h2⟩ | h1
   .rw [(s.stay (by rcases h1 with k | k <;> simp [k])).1]
   .rw [(s.stay (.inr (.inl h1))).1]
   .exact s.lift (g.ob _ hb) h2 h1 x (AZ hx (g.next_le (by omega) (by omega))) h3
   .exact s.foot (g.ob _ hb) h1 x (AZ hx (g.next_le (by omega) (by omega))) h2
   .obtain ⟨cells,ty,e1,_,_⟩:=s.fresh (g.ob _ hb) h1 (g.chk.guard _ o ho h1);have:=AZ hx (g.next_le (a:=a) (b:=b) (by omega) (by omega));rw [e1,Zw _ _ (by omega)]
structure Inv (z:Nat) (P:Program) (D:List Deferred) (ops:Array Oper) (cx:CN) (st:St) (f:Nat->St) (ρ0:CF) (w0:World) (S:Nat->Bool) (p:Nat) (ρ:CF) (a:Act) (w:World):Prop where
 closed:HT ops S
 defers:a.defers=D
 tsz:a.tmps.size=cx.n
 done: ∀k o d,k<ops.size->ops[at_ ops k]? =some o->S (at_ ops k)=true->o.dst=some d->VRel ρ ((f (k+1)).tmp d) (a.tmps.getD d undef)
 undone: ∀t,(∀i o,ops[i]? =some o->S i=true->o.dst≠some t)->VRel ρ (st.tmp t) (a.tmps.getD t undef)
 ple:p<=ops.size
 past: ∀k o,k<ops.size->ops[at_ ops k]? =some o->Ek z o->k<p
 chain: ∀k o,k<ops.size->ops[at_ ops k]? =some o->EP z o->(S (at_ ops k)=true↔k<p)
 rel:CH ρ (f p).mem (f p).next w
 ev:Ev ρ0 ρ cx.floor st.mem st.next (f p).mem (f p).next w0 w
 late: ∀k q o x b ab,k<q->q<p->q<ops.size->ops[at_ ops k]? =some o->ops[at_ ops q]? =some x->S (at_ ops k)=false->EP z x->Gl z ops (at_ ops k) (at_ ops q)=true->Ed x.op (f q).eval (f q).mem =some b->Yi (f q).mem b=some ab->CH ρ (Wv .leaf b (some ab)) (f p).next w
 allocs: ∀k o,k<ops.size->ops[at_ ops k]? =some o->Ek z o->S (at_ ops k)=false->st.next<=(f k).next /\(f k).next <(f p).next /\ρ (f k).next =none/\Yi (f p).mem (f k).next =Yi (f (k+1)).mem (f k).next
theorem y7i {o:Oper} {t:Tmp} (h:Operand.tmp t∈o.op.operands):t∈o.looksAt ops:=by unfold Oper.looksAt;rw [AJ];left;rw [List.mem_filterMap];exact ⟨.tmp t,Array.mem_toList_iff.2 h,rfl⟩
theorem x3r {o:Oper} {d:Tmp} (h:Uo ops o=some d):d∈o.looksAt ops:=by
 grind [Oper.looksAt,Uo]
theorem w4a (g:DY Sp z P ops cx st f) {i:Nat} {o:Oper} (ho:ops[i]? =some o) (hk:Xe z o.op=.alloc):o.looksAt ops=[]:=by
 unfold Oper.looksAt;rw [g.chk.guard i o ho (.inl hk)];rw [WZ] at hk;obtain ⟨dst,op,type,pos,after,guard⟩:=o;simp only at hk ⊢;cases op with
 | alloc t=>rfl
 | call c=>
  obtain ⟨callee,args,argTypes⟩:=c;cases callee with
  | builtin b=>cases b <;> cases hk
  | value f=>cases hk
  | invoke r m=>cases hk
 | _=>cases hk
section
variable {D:List Deferred} {ρ0:CF} {w0:World} {S:Nat->Bool} {p:Nat} {ρ:CF} {a:Act} {w:World}
theorem x4f (g:DY Sp z P ops cx st f) {i j:Nat} {x y:Oper} {d:Tmp} (hi:ops[i]? =some x) (hj:ops[j]? =some y) (hx:x.dst=some d) (hy:y.dst=some d):i=j:=by
 rcases Bu i j with h | h | h
 .exact absurd hy (g.chk.dst i j x y d h hi hj hx)
 .exact h
 .exact absurd hx (g.chk.dst j i y x d h hj hi hy)
theorem Inv.looks (g:DY Sp z P ops cx st f) (I:Inv z P D ops cx st f ρ0 w0 S p ρ a w) {k:Nat} {o:Oper} (hk:k<ops.size) (ho:ops[at_ ops k]? =some o) (hns:S (at_ ops k)=false) (eV:HY S o) {t:Tmp} (ht:t∈o.looksAt ops):
  VRel ρ ((f k).tmp t) (a.tmps.getD t undef):=by
 by_cases hw: ∃i x,ops[i]? =some x/\S i=true/\x.dst=some t
 .obtain ⟨i,x,hx,hs,hd⟩:=hw;have hil:i<ops.size:=(AC.1 hx).1;obtain ⟨k',hk',rfl⟩:=j9o hil;have hne:k'≠k:=fun e=>by grind
  have hlt:k'<k:=by
   rcases A8 k' k with h | h
   .exact h
   .exfalso;have hkk:k<k':=(by omega);rcases Bu (at_ ops k) (at_ ops k') with hij | hij | hij
    .rcases g.chk.pair _ _ _ _ hij ho hx with hf | ⟨hap,_⟩
     .have:=hf S I.closed (fun e he hb=>I.closed _ _ hx hs e he hb)
      grind
     grind [Oper.apart_spec]
    .grind
    .rcases FH hkk hk' with ⟨h1,_⟩ | ⟨_,h2⟩;all_goals grind [w4a,Je]
  have hst:(f k).tmp t=(f (k'+1)).tmp t:=g.slot_stays (by omega) (by omega) fun q y h1 h2 hy hyd=>by
   have:=x4f g hx hy hd hyd;have e:at_ ops k'=at_ ops q:=this;rcases FH (ops:=ops) (k1:=k') (k2:=q) (by omega) (by omega) with ⟨h1,h2⟩ | ⟨_,h2⟩;all_goals grind
  rw [hst];exact I.done k' x t hk' hx hs hd
 .have hno: ∀i x,ops[i]? =some x->S i=true->x.dst≠some t:=fun i x hx hs hd=>hw ⟨i,x,hx,hs,hd⟩;have hst:(f k).tmp t=(f 0).tmp t:=g.slot_stays (AA _) (by omega) fun q y _ h2 hy hyd=>by
   have hqs:S (at_ ops q)=false:=by
    grind
   rcases Bu (at_ ops q) (at_ ops k) with hij | hij | hij
   .rcases g.chk.pair _ _ _ _ hij hy ho with hf | ⟨hap,_⟩
    .have:=hf S I.closed eV
     grind
    grind [Oper.apart_spec]
   .rcases FH (ops:=ops) h2 hk with ⟨h1,h3⟩ | ⟨_,h3⟩;all_goals grind
   .rcases FH (ops:=ops) h2 hk with ⟨h1,_⟩ | ⟨_,h3⟩
    .have hap:=g.chk.alloc _ _ _ _ hij ho hy ((Je (z:=z) hy).1 h1)
     grind [Oper.apart_spec]
    .omega
  rw [hst,g.f0];exact I.undone t hno
theorem Inv.operands (g:DY Sp z P ops cx st f) (I:Inv z P D ops cx st f ρ0 w0 S p ρ a w) {k:Nat} {o:Oper} (hk:k<ops.size) (ho:ops[at_ ops k]? =some o) (hns:S (at_ ops k)=false) (eV:HY S o):Qz ρ (f k).eval a.eval o.op:=by
 intro x hx;cases x with
 | tmp t=>exact I.looks g hk ho hns eV (y7i hx)
 | const v=>exact v6g v
 | global g=>exact .undef _
 | func f=>exact .fn f [] #[] rfl fun i h1 _=>by simp at h1
theorem Inv.slots (g:DY Sp z P ops cx st f) (I:Inv z P D ops cx st f ρ0 w0 S p ρ a w) {k:Nat} {o:Oper} (hk:k<ops.size) (ho:ops[at_ ops k]? =some o) (hns:S (at_ ops k)=false) {ρ':CF} (hle:ρ.le ρ') {u:Value}
  (fB: ∀d,o.dst=some d->VRel ρ' ((f (k+1)).tmp d) u) {S':Nat->Bool} (hS: ∀i,S' i=(S i||i == at_ ops k)):
  (∀k' x d,k'<ops.size->ops[at_ ops k']? =some x->S' (at_ ops k')=true->x.dst=some d->VRel ρ' ((f (k'+1)).tmp d) ((a.put o.dst u).tmps.getD d undef))/\
  (∀t,(∀i x,ops[i]? =some x->S' i=true->x.dst≠some t)->VRel ρ' (st.tmp t) ((a.put o.dst u).tmps.getD t undef)):=by
 have other: ∀t,o.dst≠some t->(a.put o.dst u).tmps.getD t undef=a.tmps.getD t undef:=fun t ht=>by
  cases hd:o.dst with
  | none=>rfl
  | some d=>simp_all [Act.put]
 obtain ⟨_,ho',s⟩:=g.step' hk;rw [ho] at ho';obtain rfl:=Ag ho';refine ⟨fun k' x d hk' hx hs hd=> ?_,fun t hno=> ?_⟩
 .by_cases hod:o.dst=some d
  .have e:=x4f g ho hx hod hd;have hkk:k'=k:=by
    rcases Bu k' k with h | h | h
    .rcases FH (ops:=ops) h hk with ⟨h1,h3⟩ | ⟨_,h3⟩;all_goals grind
    .exact h
    .rcases FH (ops:=ops) h hk' with ⟨h1,h3⟩ | ⟨_,h3⟩;all_goals grind
   subst hkk;have hlt:d<a.tmps.size:=by rw [I.tsz];exact s.slot d hod
   simp_all [Act.put]
  .rw [other d hod];have hne:at_ ops k'≠at_ ops k:=fun e=>by
    grind
   have hs':S (at_ ops k')=true:=by
    grind
   exact (I.done k' x d hk' hx hs' hd).mono hle
 .have hod:o.dst≠some t:=hno _ o ho (by rw [hS];simp);rw [other t hod];exact (I.undone t fun i x hx hs=>hno i x hx (by grind)).mono hle
theorem Inv.closes (I:Inv z P D ops cx st f ρ0 w0 S p ρ a w) {i:Nat} {o:Oper} (ho:ops[i]? =some o) (eV:HY S o) {S':Nat->Bool} (hS: ∀j,S' j=(S j||j == i)):HT ops S':=by
 intro j x hx hs e he hb;rw [hS] at hs ⊢;by_cases hj:j=i
 .subst hj;rw [ho] at hx;obtain rfl:=Ag hx;rw [eV e he hb];rfl
 .have:S j=true:=by grind
  rw [I.closed j x hx this e he hb];rfl
theorem v0t {i:Nat} {l:Bool} {o:Oper} {ev:Operand->CA} {mem:CI} {y:Dj} (h:Xe z o.op=.read):lateF z ops (i,l,o) ev mem y=false:=by
 have hk:Ed o.op ev mem=none:=by
  unfold Ed;split
  .rename_i e;rw [e] at h;cases h
  .rfl
 unfold lateF
 grind
theorem v0s {i j b:Nat} {l:Bool} {x:Oper} {ev:Operand->CA} {mem:CI} {wr:Option Nat} (h:lateF z ops (i,l,x) ev mem (j,some b,wr)=true):Gl z ops j i=true/\Ed x.op ev mem=some b:=by
 unfold lateF at h;split at h
 .rename_i j' b' e;simp only [Ad,Ae] at e;obtain ⟨rfl,rfl,rfl⟩:=e;split at h;all_goals simp_all
 .cases h
theorem Inv.between (g:DY Sp z P ops cx st f) (I:Inv z P D ops cx st f ρ0 w0 S p ρ a w) {k:Nat} {o:Oper} (hk:k<ops.size) (ho:ops[at_ ops k]? =some o) (hns:S (at_ ops k)=false) (eV:HY S o) (gS:Xe z o.op=.read) {b:Nat} (hb:Eg o.op (f k).eval =some b):
  (∀q x,p<=q->q<k->ops[at_ ops q]? =some x->NO z x\/Xe z x.op=.read \/(Xe z x.op=.call /\EM ops (at_ ops q)=true/\Ec Sp x.op (f q).eval ≠some b)\/(Xe z x.op=.chain /\EH x.op (f q).eval ≠some b)\/Ek z x)/\
  (∀q x,k<=q->q<p->ops[at_ ops q]? =some x->NO z x\/Xe z x.op=.read \/(Xe z x.op=.call /\EM ops (at_ ops q)=true/\Ec Sp x.op (f q).eval ≠some b)\/(Xe z x.op=.chain /\EH x.op (f q).eval ≠some b)\/Ek z x\/(EP z x/\Gl z ops (at_ ops k) (at_ ops q)=true/\Ed x.op (f q).eval (f q).mem =some b)):=by
 have nal:isAlloc ops (at_ ops k)=false:=by
  grind [Je]
 constructor
 .intro q x h1 h2 hx;rcases NL z x with h | h | h | h
  .exact .inl h
  .grind
  .grind
  .have hqs:S (at_ ops q)=false:=by
    cases e:S (at_ ops q) with
    | false=>rfl
    | true=>have:=(I.chain q x (by omega) hx h).1 e;omega
   have hlt:at_ ops q<at_ ops k:=by
    rcases FH (ops:=ops) h2 hk with ⟨h3,_⟩ | ⟨_,h3⟩
    .have:=I.past q x (by omega) hx (.inl ((Je (z:=z) hx).1 h3));omega
    .exact h3
   rcases g.chk.pair _ _ _ _ hlt hx ho with hf | ⟨_,hkd,hl,_⟩
   .have:=hf S I.closed eV
    grind
   .have no:Ec Sp x.op (f q).eval ≠some b:=fun hw=>by
     have:=(g.foot' h2 hk ho hx).resolve_right (fun hl=>by
      rw [v0t gS] at hl;cases hl) (.inl (by rw [hb,hw];exact BR b))
     unfold ordered at this;simp only [Bv] at this;rcases this with this | this
     .have:=(g.chk.bits _ _ hx _ this).1;omega
     .have:=(g.chk.bits _ _ ho _ this).2 S I.closed eV
      grind
    rcases h with h | h;all_goals simp_all [x5a,x3v]
 .intro q x h1 h2 hx;have hp:=I.ple;rcases NL z x with h | h | h | h
  .exact .inl h
  .grind
  .grind
  .have hqs:S (at_ ops q)=true:=(I.chain q x (by omega) hx h).2 h2;have hne:q≠k:=fun e=>by grind
   have hlt:at_ ops k<at_ ops q:=by
    rcases FH (ops:=ops) (k1:=k) (k2:=q) (by omega) (by omega) with ⟨h3,_⟩ | ⟨_,h3⟩;all_goals grind
   rcases g.chk.pair _ _ _ _ hlt ho hx with hf | ⟨_,hkd,_,hl⟩
   .have:=hf S I.closed fun e he hb=>I.closed _ _ hx hqs e he hb
    grind
   .rcases g.foot' (q:=k) (k:=q) (by omega) (by omega) hx ho with hfo | hla
    rotate_left
    .grind [v0s]
    have no:Ec Sp x.op (f q).eval ≠some b:=fun hw=>by
     have:=hfo (.inr (by rw [hb,hw];exact BR b));unfold ordered at this;simp only [Bv] at this;rcases this with this | this
     .have:=(g.chk.bits _ _ ho _ this).1;omega
     .have:=(g.chk.bits _ _ hx _ this).2 S I.closed fun e he hb=>I.closed _ _ hx hqs e he hb
      grind
    rcases h with h | h;all_goals simp_all [x5a,x3v]
theorem Inv.next_chain (g:DY Sp z P ops cx st f) (I:Inv z P D ops cx st f ρ0 w0 S p ρ a w) {k:Nat} {o:Oper} (hk:k<ops.size) (ho:ops[at_ ops k]? =some o) (hns:S (at_ ops k)=false) (eV:HY S o) (hch:EP z o):
  p<=k/\(∀q x,q<ops.size->ops[at_ ops q]? =some x->EP z x->(S (at_ ops q)=true↔q<k)):=by
 have nal:isAlloc ops (at_ ops k)=false:=by
  cases e:isAlloc ops (at_ ops k) with
  | false=>rfl
  | true=>have:=(Je (z:=z) ho).1 e;rcases hch with h | h <;> rw [h] at this <;> cases this
 have key: ∀q x,q<ops.size->ops[at_ ops q]? =some x->EP z x->(S (at_ ops q)=true↔q<k):=by
  intro q x hq hx hxc;have nalx:isAlloc ops (at_ ops q)=false:=by
   cases e:isAlloc ops (at_ ops q) with
   | false=>rfl
   | true=>have:=(Je (z:=z) hx).1 e;rcases hxc with h | h <;> rw [h] at this <;> cases this
  have nok: ∀(x y:Oper),EP z x->EP z y->w1y (Xe z x.op) (Xe z y.op)=false:=by
   intro x y hx hy;rcases hx with h | h <;> rcases hy with h' | h' <;> rw [h,h'] <;> rfl
  constructor
  .intro hs;rcases Bu q k with h | h | h
   .exact h
   .grind
   .exfalso;have hlt:at_ ops k<at_ ops q:=by
     rcases FH (ops:=ops) h hq with ⟨h3,_⟩ | ⟨_,h3⟩;all_goals grind
    rcases g.chk.pair _ _ _ _ hlt ho hx with hf | ⟨_,hkd,_⟩
    .have:=hf S I.closed fun e he hb=>I.closed _ _ hx hs e he hb
     grind
    grind
  .intro h;have hlt:at_ ops q<at_ ops k:=by
    rcases FH (ops:=ops) h hk with ⟨h3,_⟩ | ⟨_,h3⟩;all_goals grind
   rcases g.chk.pair _ _ _ _ hlt hx ho with hf | ⟨_,hkd,_⟩
   .exact hf S I.closed eV
   grind
 refine ⟨?_,key⟩;rcases A8 k p with h | h
 .have:=(I.chain k o hk ho hch).2 h
  grind
 .exact h
end
end
section
variable {Sp:CC} {z:Nat} {P:Program} {D:List Deferred} {ops:Array Oper} {cx:CN} {st:St} {f:Nat->St}
theorem w8o {ρ ρ':CF} {floor:Nat} {m m':CI} {n n':Nat} {w w':World} (h:CH ρ m n w) (h':CH ρ' m' n' w') (e:Ev ρ ρ' floor m n m' n' w w') {b:Nat} {ab:CG} (hm:Yi m b=some ab) (hb: ∀l,ρ b=some l->Wn ρ w' ab l):
  CH ρ' (Wv .leaf b (some ab)) n' w':=by
 have hbn:b<n:=by
  rcases A8 b n with g | g
  .exact g
  .rw [h.bd b g] at hm;cases hm
 have hn:=e.nxt;have hg: ∀c,(Yi (Wv .leaf b (some ab)) c).isSome =true->c=b:=fun c hc=>by
  by_cases hcb:c=b
  .exact hcb
  .rw [Zw _ _ hcb] at hc;cases hc
 refine ⟨h'.dom,fun c c' l l' _ _ _ hs hs'=>(hg c hs).trans (hg c' hs').symm,fun c l a hc ha=> ?_,h'.old,fun c l hc hs=> ?_,h'.real,fun c hc=> ?_,h'.ldom⟩
 .obtain rfl:=hg c (by rw [ha];rfl);rw [Yw] at ha;obtain rfl:=Ag ha;rw [e.new c hbn] at hc;have q:=hb l hc;exact q.world e.ext rfl
 .obtain rfl:=hg c hs;rw [e.new c hbn] at hc;rw [e.still _ (h.real c l hc)];exact h.sep c l hc (by rw [hm];rfl)
 .rw [Zw _ _ (by omega)];rfl
theorem u5w (g:DY Sp z P ops cx st f) {ρ0:CF} {w0:World} (hout: ∀i,cx.n<=i->T.get .undef st.env i=.undef) (hbd: ∀b,st.next<=b->Yi st.mem b=none): ∀(fuel:Nat) (listed:Array Bool) (p:Nat) (ρ:CF) (a:Act) (w:World),listed.size=ops.size->
  (List.range ops.size).countP (fun i=> !listed.getD i false)=fuel->Inv z P D ops cx st f ρ0 w0 (fun i=>listed.getD i false) p ρ a w->wpAny P .any ops (Ip D ρ0 cx st (f ops.size) w0) fuel listed a w:=by
 have someReady: ∀listed:Array Bool,listed.size=ops.size-> ∀i,i<ops.size->listed.getD i false=false-> ∃j,j∈Region.ready .any ops listed:=by
  intro listed hsz i
  induction i using Nat.strongRecOn with
  | _ i ih=>
   intro hi hl;by_cases h: ∃e∈(ops[i]).after.toList,Region.binds .any e=true/\listed.getD e.on false=false
   .obtain ⟨e,he,hb,hf⟩:=h;have hlt:=g.chk.ord i ops[i] (by simp [hi]) e he hb
    grind
   .refine ⟨i,mem_ready.2 ⟨?_,ops[i],by simp [hi],fun e he hb=> ?_⟩⟩;all_goals grind
 intro fuel
 induction fuel with
 | zero=>
  intro listed p ρ a w hsz hcnt I;have fJ: ∀i,i<ops.size->listed.getD i false=true:=by simp_all
  refine ⟨?_,rfl,I.defers,ρ,?_,?_,?_⟩
  .simp_all [Region.ready]
  .refine ⟨I.tsz,fun t=> ?_,fun i hi=> ?_⟩
   .by_cases hw: ∃(i:Nat) (x:Oper),ops[i]? =some x/\x.dst=some t
    .obtain ⟨i,x,hx,hd⟩:=hw;have hil:i<ops.size:=(AC.1 hx).1;obtain ⟨k,hk,rfl⟩:=j9o hil;have hst:(f ops.size).tmp t=(f (k+1)).tmp t:=g.slot_stays (by omega) (Aq _) fun q y h1 h2 hy hyd=>by
      have e:at_ ops k=at_ ops q:=x4f g hx hy hd hyd;rcases FH (ops:=ops) (k1:=k) (k2:=q) (by omega) h2 with ⟨h3,h4⟩ | ⟨_,h4⟩;all_goals grind
     show VRel ρ ((f ops.size).tmp t) _;rw [hst];exact I.done k x t hk hx (fJ _ hil) hd
    .have hst:(f ops.size).tmp t=(f 0).tmp t:=g.slot_stays (AA _) (Aq _) fun q y _ h2 hy hyd=>hw ⟨_,y,hy,hyd⟩;show VRel ρ ((f ops.size).tmp t) _;rw [hst,g.f0];exact I.undone t fun i x hx _ hd=>hw ⟨i,x,hx,hd⟩
   .have hst:(f ops.size).tmp i=(f 0).tmp i:=g.slot_stays (AA _) (Aq _) fun q y _ h2 hy hyd=>by obtain ⟨o,ho,s⟩:=g.step' h2;rw [hy] at ho;obtain rfl:=Ag ho;exact absurd hi (Nat.not_le_of_lt (s.slot i hyd))
    show (f ops.size).tmp i=_;rw [hst,g.f0];exact hout i hi
  .obtain ⟨e1,e2⟩:=g.mem_stays I.ple (Aq _) fun k o h1 h2 ho=>by
    rcases NL z o with h | h | h | h
    .exact .inl h
    .exact .inr h
    .have:=I.past k o h2 ho h;omega
    .have:=(I.chain k o h2 ho h).1 (fJ _ (ZN h2));omega
   rw [e1,e2];exact I.rel
  .obtain ⟨e1,e2⟩:=g.mem_stays I.ple (Aq _) fun k o h1 h2 ho=>by
    rcases NL z o with h | h | h | h
    .exact .inl h
    .exact .inr h
    .have:=I.past k o h2 ho h;omega
    .have:=(I.chain k o h2 ho h).1 (fJ _ (ZN h2));omega
   rw [e1,e2];exact I.ev
 | succ fuel ih=>
  intro listed p ρ a w hsz hcnt I;refine ⟨fun hr=> ?_,fun i hi=> ?_⟩
  .exfalso;have: ∃i,i<ops.size/\listed.getD i false=false:=by
    have hpos:0<(List.range ops.size).countP (fun i=> !listed.getD i false):=(by omega);obtain ⟨i,hi,h⟩:=List.countP_pos_iff.1 hpos
    grind
   grind
  .obtain ⟨hun,o,ho,hafter⟩:=mem_ready.1 hi;have hil:i<ops.size:=(AC.1 ho).1;obtain ⟨k,hk,rfl⟩:=j9o hil;have hil2:at_ ops k<listed.size:=by omega
   have hns:listed.getD (at_ ops k) false=false:=by grind
   have eV:HY (fun i=>listed.getD i false) o:=fun e he hb=>hafter e (Array.mem_toList_iff.1 he) hb;have hS: ∀j,(listed.setIfInBounds (at_ ops k) true).getD j false=(listed.getD j false||j == at_ ops k):=by
    intro j;by_cases hj:j=at_ ops k
    .simp_all
    .have:(j == at_ ops k)=false:=(by grind);simp [this,Array.getElem?_setIfInBounds_ne (Ne.symm hj)]
   have hcnt':(List.range ops.size).countP (fun i=> !(listed.setIfInBounds (at_ ops k) true).getD i false)=fuel:=by
    have:=z3v (fun i=> !listed.getD i false) (fun i=> !(listed.setIfInBounds (at_ ops k) true).getD i false) (at_ ops k) ops.size (fun j hj=>by
     grind) (by grind) (by rw [hS];simp) hil
    omega
   have gO:(listed.setIfInBounds (at_ ops k) true).size =ops.size:=by grind
   have gE:=I.closes ho eV hS;have undone: ∀{j:Nat},(listed.setIfInBounds (at_ ops k) true).getD j false=false->listed.getD j false=false:=fun {j} h=>by
    grind
   have calms: ∀(k1 q:Nat) (o1 x:Oper),k1<q->q<p->q<ops.size->ops[at_ ops k1]? =some o1->ops[at_ ops q]? =some x->(listed.setIfInBounds (at_ ops k) true).getD (at_ ops k1) false=false->EP z x->Gl z ops (at_ ops k1) (at_ ops q)=true->ZQ z o.op=true:=fun k1 q o1 x c1 c2 c3 c4 c5 c6 c7 c8=>by
    have hq:=(I.chain q x c3 c5 c7).2 c2;have h8:=As.1 c8 (at_ ops k) (AL.2 hil);rw [ho] at h8;simp only [Bv] at h8;rcases h8 with h8 | h8 | h8 | h8
    .exact h8
    .simp_all
    .have:=(g.chk.bits _ _ c5 _ h8).2 _ I.closed fun e he hb=>I.closed _ _ c5 hq e he hb
     grind
    .have:=(g.chk.bits _ _ ho _ h8).2 _ I.closed eV
     grind
   have notcalm: ∀{α:Prop},Xe z o.op≠ .pure ->Xe z o.op≠ .read ->ZQ z o.op=true->α:=fun h1 h2 h=>by
    grind [ZQ]
   obtain ⟨o',ho',s⟩:=g.step' hk;rw [ho] at ho';obtain rfl:=Ag ho';have hops:=I.operands g hk ho hns eV;have hguard: ∀d,Uo ops o=some d->VRel ρ ((f k).tmp d) (a.tmps.getD d undef):=fun d hd=>I.looks g hk ho hns eV (x3r hd);have hob:=g.ob (k+1) (by omega);have finish: ∀{q:Prop},(if Region.wanted o (yielded ops a.tmps) then o.wp P a w (wpAny P .any ops (Ip D ρ0 cx st (f ops.size) w0) fuel (listed.setIfInBounds (at_ ops k) true)) (Ip D ρ0 cx st (f ops.size) w0) else wpAny P .any ops (Ip D ρ0 cx st (f ops.size) w0) fuel (listed.setIfInBounds (at_ ops k) true) (a.put o.dst undef) w)->
     wpOp P ops (Ip D ρ0 cx st (f ops.size) w0) (at_ ops k) (wpAny P .any ops (Ip D ρ0 cx st (f ops.size) w0) fuel (listed.setIfInBounds (at_ ops k) true)) a w:=by
    grind [wpOp]
   have calm:(Xe z o.op=.pure \/Xe z o.op=.read)->wpOp P ops (Ip D ρ0 cx st (f ops.size) w0) (at_ ops k) (wpAny P .any ops (Ip D ρ0 cx st (f ops.size) w0) fuel (listed.setIfInBounds (at_ ops k) true)) a w:=by
    intro hkd;obtain ⟨memC,hrelC,hagC⟩: ∃memC,CH ρ memC (f p).next w/\ ∀t y b ab,o.op=.load t y->Eg o.op (f k).eval =some b->Yi (f k).mem b=some ab->Yi memC b=some ab:=by
     by_cases hl: ∃t y b ab q x,o.op=.load t y/\Eg o.op (f k).eval =some b/\Yi (f k).mem b=some ab/\k<=q/\q<p/\ops[at_ ops q]? =some x/\EP z x/\Gl z ops (at_ ops k) (at_ ops q)=true/\Ed x.op (f q).eval (f q).mem =some b
     .obtain ⟨t,y,b,ab,q0,x0,hop,hrd,hm,l1,l2,l3,l4,l5,l6⟩:=hl;have gS:Xe z o.op=.read :=by rw [hop];rfl
      obtain ⟨_,b2⟩:=I.between g hk ho hns eV gS hrd;have hbn:b<(f k).next :=by
       rcases A8 b (f k).next with h | h
       .exact h
       .rw [g.bd hbd (by omega) b h] at hm;cases hm
      have first: ∀n q x,q<=n->k<=q->q<p->ops[at_ ops q]? =some x->EP z x->Gl z ops (at_ ops k) (at_ ops q)=true->Ed x.op (f q).eval (f q).mem =some b->
        ∃q x,k<=q/\q<p/\ops[at_ ops q]? =some x/\EP z x/\Gl z ops (at_ ops k) (at_ ops q)=true/\Ed x.op (f q).eval (f q).mem =some b/\ ∀q' x',k<=q'->q'<q->ops[at_ ops q']? =some x'-> ¬(EP z x'/\Gl z ops (at_ ops k) (at_ ops q')=true/\Ed x'.op (f q').eval (f q').mem =some b):=by
       intro n
       induction n with
       | zero=>grind
       | succ n ih=>
        intro q x h0 h1 h2 h3 h4 h5 h6;by_cases he: ∃q' x',k<=q'/\q'<q/\ops[at_ ops q']? =some x'/\EP z x'/\Gl z ops (at_ ops k) (at_ ops q')=true/\Ed x'.op (f q').eval (f q').mem =some b
        .obtain ⟨q',x',e1,e2,e3,e4,e5,e6⟩:=he;exact ih q' x' (by omega) e1 (by omega) e3 e4 e5 e6
        .exact ⟨q,x,h1,h2,h3,h4,h5,h6,fun q' x' e1 e2 e3 e4=>he ⟨q',x',e1,e2,e3,e4⟩⟩
      obtain ⟨q,x,h1,h2,h3,h4,h5,h6,h7⟩:=first q0 q0 x0 (Aq _) l1 l2 l3 l4 l5 l6
      have hple:=I.ple;have hne:k≠q:=fun e=>by
       rw [<-e,ho] at h3;obtain rfl:=Ag h3;rcases h4 with h | h <;> rw [gS] at h <;> cases h
      have hst:=g.blk_stays (x:=b) (a:=k) (b:=q) h1 (by omega) hbn fun q' x' e1 e2 e3=>by
       rcases b2 q' x' e1 (by omega) e3 with d | d | d | d | d | d;all_goals grind
      refine ⟨_,I.late k q o x b ab (by omega) h2 (by omega) ho h3 hns h4 h5 h6 (by grind),fun t' y' b' ab' hop' hrd' hm'=> ?_⟩
      grind [Yw]
     .refine ⟨(f p).mem,I.rel,fun t y b ab hop hrd hm=> ?_⟩;have gS:Xe z o.op=.read :=by rw [hop];rfl
      obtain ⟨b1,b2⟩:=I.between g hk ho hns eV gS hrd;have b2: ∀q x,k<=q->q<p->ops[at_ ops q]? =some x->NO z x\/Xe z x.op=.read \/(Xe z x.op=.call /\EM ops (at_ ops q)=true/\Ec Sp x.op (f q).eval ≠some b)\/(Xe z x.op=.chain /\EH x.op (f q).eval ≠some b)\/Ek z x:=fun q x e1 e2 e3=>by
       rcases b2 q x e1 e2 e3 with d | d | d | d | d | d;all_goals grind
      have hρ: ∃l,ρ b=some l:=by
       have:=hops y (by rw [hop];simp [Op.operands]);rw [hop] at hrd;simp only [Eg] at hrd;generalize a.eval y=uy at this;split at hrd
       .rename_i hy;rw [hy] at this;obtain rfl:=Ag hrd;cases this with
        | ptr _ _ l h=>grind
       .rename_i hy;rw [hy] at this;obtain rfl:=Ag hrd;cases this with
        | epa _ _ _ _ l h=>grind
       .cases hrd
      obtain ⟨l,hl⟩:=hρ;rcases Nat.le_total p k with hpk | hpk
      .have:=g.blk_stays (x:=b) hpk (by omega) (I.rel.dom b l hl) b1
       grind
      .have hbn:b<(f k).next :=by
        rcases A8 b (f k).next with h | h
        .exact h
        .rw [g.bd hbd (by omega) b h] at hm;cases hm
       have:=g.blk_stays (x:=b) hpk I.ple hbn b2
       grind
    refine finish (q:=True) (s.calm hob hkd ρ a w (f k).eval memC (f p).next I.tsz (fun _ _=>rfl) hguard hops hrelC hagC _ _ fun u fB=> ?_)
    .obtain ⟨d1,d2⟩:=I.slots g hk ho hns (CF.le_refl ρ) fB hS;refine ih _ p ρ _ w gO hcnt' ⟨gE,by rw [Act.put_defers'];exact I.defers,by cases h:o.dst <;> simp [Act.put,I.tsz],d1,d2,I.ple,I.past,fun q x hq hx hc=> ?_,I.rel,I.ev,fun k1 q o1 x b ab c1 c2 c3 c4 c5 c6=>I.late k1 q o1 x b ab c1 c2 c3 c4 c5 (undone c6),fun q x hq hx hnw hs=> ?_⟩
     .have hne:at_ ops q≠at_ ops k:=fun e=>by
       rw [e,ho] at hx;obtain rfl:=Ag hx;rcases hc with h | h <;> rcases hkd with h' | h' <;> rw [h] at h' <;> cases h'
      rw [hS]
      simpa [hne] using I.chain q x hq hx hc
     .rw [hS] at hs;simp only [AP] at hs;exact I.allocs q x hq hx hnw hs.1
   rcases NL z o with (hkd | hkd) | hkd | hkd | hkd
   .grind
   ·-- a slice that is written out, as data
    refine finish (q:=True) (s.lit hob hkd ρ a w (f k).eval (f p).mem (f p).next I.tsz (fun _ _=>rfl) hguard hops I.rel _ _ fun ρ' u w' fB fH eX hev=> ?_);obtain ⟨d1,d2⟩:=I.slots g hk ho hns (hev cx.floor (f p).mem).ext fB hS;refine ih _ p ρ' _ w' gO hcnt' ⟨gE,by rw [Act.put_defers'];exact I.defers,by cases h:o.dst <;> simp [Act.put,I.tsz],d1,d2,I.ple,I.past,fun q x hq hx hc=> ?_,fH,I.ev.trans (hev _ _),fun k1 q o1 x b ab c1 c2 c3 c4 c5 c6 c7 c8=>notcalm (by grind) (by grind) (calms k1 q o1 x c1 c2 c3 c4 c5 c6 c7 c8),fun q x hq hx hnw hs=> ?_⟩
    .have hne:at_ ops q≠at_ ops k:=fun e=>by
      rw [e,ho] at hx;obtain rfl:=Ag hx;rcases hc with h | h <;> rw [h] at hkd <;> cases hkd
     rw [hS]
     simpa [hne] using I.chain q x hq hx hc
    .rw [hS] at hs;simp only [AP] at hs;obtain ⟨m1,m2,m3,m4⟩:=I.allocs q x hq hx hnw hs.1
     grind
   .grind
   ·-- a block is made
    have hgn:=g.chk.guard _ o ho hkd;obtain ⟨cells,ty,hm1,hn1,hborn⟩:=s.fresh hob hkd hgn;obtain ⟨l1,l2,l3,l4⟩:=I.allocs k o hk ho hkd hns;rw [hm1,Yw] at l4;obtain ⟨u,vs,el,hel,hvs,eO,fB⟩:=hborn ρ a w (f k).eval (fun _ _=>rfl) hops;have fH:=I.rel.birth l2 l3 l4 el hvs hel;refine finish (q:=True) ?_;rw [AF (by unfold Region.wanted;rw [hgn])];unfold Oper.wp;rw [eO];have hle:ρ.le (Vn ρ (f k).next ⟨w.heap.size,0,cells.length,vs.size⟩):=Qs l3;obtain ⟨d1,d2⟩:=I.slots g hk ho hns hle (u:=u) (fun d hd=>fB _ (by simp [Vn]) d hd) hS;have ev':Ev ρ0 (Vn ρ (f k).next ⟨w.heap.size,0,cells.length,vs.size⟩) cx.floor st.mem st.next (f p).mem (f p).next w0 {w with heap:=w.heap.push (.cells vs el)}:=by
     have e:=I.ev;refine ⟨CF.le_trans e.ext hle,fun b hb=> ?_,e.nxt,e.unborn,fun q ob hq hf=> ?_,fun b l hb hl=> ?_,?_,e.os,e.tape,e.output,e.still⟩
     .rw [<-e.new b hb];rw [Uv,Az (by omega)]
     .have:=e.frame q ob hq hf
      grind
     .rw [Uv] at hl;by_cases hbk:b=(f k).next
      .rw [AF hbk] at hl;obtain rfl:=Ag hl;exact .inl e.size
      .rw [Az hbk] at hl;exact e.fresh b l hb hl
     .have:=e.size;simp;omega
    refine ih _ p _ _ _ gO hcnt' ⟨gE,by rw [Act.put_defers'];exact I.defers,by cases h:o.dst <;> simp [Act.put,I.tsz],d1,d2,I.ple,I.past,fun q x hq hx hc=> ?_,fH,ev',fun k1 q o1 x b ab c1 c2 c3 c4 c5 c6 c7 c8=>notcalm (by rcases hkd with h | h <;> rw [h] <;> exact fun h=>by cases h) (by rcases hkd with h | h <;> rw [h] <;> exact fun h=>by cases h) (calms k1 q o1 x c1 c2 c3 c4 c5 c6 c7 c8),fun q x hq hx hnw hs=> ?_⟩
    .have hne:at_ ops q≠at_ ops k:=fun e=>by
      rw [e,ho] at hx;obtain rfl:=Ag hx;rcases hc with h | h <;> rcases hkd with h' | h' <;> rw [h] at h' <;> cases h'
     rw [hS]
     simpa [hne] using I.chain q x hq hx hc
    .rw [hS] at hs;simp only [AP] at hs;obtain ⟨m1,m2,m3,m4⟩:=I.allocs q x hq hx hnw hs.1;refine ⟨m1,m2,?_,m4⟩;have hne:(f q).next ≠(f k).next :=by
      have hqk:q≠k:=fun e=>by grind
      have up: ∀q x,q<ops.size->ops[at_ ops q]? =some x->Ek z x->(f (q+1)).next =(f q).next +1:=by intro q x hq hx hn;obtain ⟨x',hx',s'⟩:=g.step' hq;rw [hx] at hx';obtain rfl:=Ag hx';obtain ⟨_,_,_,h6,_⟩:=s'.fresh (g.ob _ (by omega)) hn (g.chk.guard _ x hx hn);exact h6
      rcases Bu q k with h | h | h
      .have h1:=up q x hq hx hnw;have h2:=g.next_le (a:=q+1) (b:=k) (by omega) (by omega);omega
      .grind
      .have h1:=up k o hk ho hkd;have h2:=g.next_le (a:=k+1) (b:=q) (by omega) (by omega);omega
     grind [Uv]
   ·-- the next one that may write
    obtain ⟨hpk,hch⟩:=I.next_chain g hk ho hns eV hkd;obtain ⟨e1,e2⟩:=g.mem_stays hpk (by omega) fun q x h1 h2 hx=>by
     rcases NL z x with h | h | h | h
     .exact .inl h
     .exact .inr h
     .have:=I.past q x (by omega) hx h;omega
     .have:=(I.chain q x (by omega) hx h).1 ((hch q x (by omega) hx h).2 h2);omega
    have eI:CH ρ (f k).mem (f k).next w:=by rw [e1,e2];exact I.rel
    refine finish (q:=True) (s.does hob hkd ρ a w (f k).eval I.tsz (fun _ _=>rfl) hguard hops eI _ _ fun ρ' u w' fB fH hev hlate=> ?_);obtain ⟨d1,d2⟩:=I.slots g hk ho hns hev.ext fB hS;have hev0:=hev;rw [e1,e2] at hev;refine ih _ (k+1) ρ' _ w' gO hcnt' ⟨gE,by rw [Act.put_defers'];exact I.defers,by cases h:o.dst <;> simp [Act.put,I.tsz],d1,d2,by omega,fun q x hq hx hc=>by have:=I.past q x hq hx hc;omega,fun q x hq hx hc=> ?_,fH,I.ev.trans hev,fun k1 q o1 x b ab c1 c2 c3 c4 c5 c6 c7 c8 c9 c10=> ?late,fun q x hq hx hnw hs=> ?_⟩
    case late=>
     by_cases hqk:q=k
     .subst hqk;rw [ho] at c5;obtain rfl:=Ag c5;exact w8o eI fH hev0 c10 fun l hl=>hlate b ab l c9 c10 hl
     .have hqs:=(hch q x c3 c5 c7).2 (by omega);have hqp:=(I.chain q x c3 c5 c7).1 hqs;exact notcalm (by rcases hkd with h | h <;> rw [h] <;> exact fun h=>by cases h) (by rcases hkd with h | h <;> rw [h] <;> exact fun h=>by cases h) (calms k1 q o1 x c1 hqp c3 c4 c5 c6 c7 c8)
    .rw [hS];by_cases hqk:q=k
     .grind
     .have hne:at_ ops q≠at_ ops k:=fun e=>by
       rcases A8 q k with h | h
       .grind
       .rcases FH (ops:=ops) (k1:=k) (k2:=q) (by omega) hq with ⟨h3,h4⟩ | ⟨_,h4⟩;all_goals grind
      have:=hch q x hq hx hc;simp only [beq_eq_false_iff_ne.2 hne,Bool.or_false];rw [this];omega
    .rw [hS] at hs;simp only [AP] at hs;obtain ⟨m1,m2,m3,m4⟩:=I.allocs q x hq hx hnw hs.1;obtain ⟨x',hx',s'⟩:=g.step' hq;rw [hx] at hx';obtain rfl:=Ag hx';obtain ⟨cells,ty,hm1,_,_⟩:=s'.fresh (g.ob _ (by omega)) hnw (g.chk.guard _ x hx hnw);have e0:Yi (f (q+1)).mem (f q).next =some ⟨cells,ty,none⟩:=by rw [hm1,Yw]
     rw [e0] at m4;refine ⟨m1,AZ m2 hev.nxt,by rw [hev.new _ m2];exact m3,by rw [e0];exact hev.unborn _ m2 m3 _ _ m4⟩
theorem v7m (g:DY Sp z P ops cx st f) {ρ:CF} {a:Act} {w:World} (hd:a.defers=D) (eP:Vx ρ st.env cx.n a.tmps) (eI:CH ρ st.mem st.next w):
  ∃p,Inv z P D ops cx st f ρ w (fun i=>(Array.replicate ops.size false).getD i false) p ρ a w:=by
 have hf: ∀i,(Array.replicate ops.size false).getD i false=false:=fun i=>by
  by_cases h:i<ops.size;all_goals simp_all
 have hA: ∃p,p<=ops.size/\(∀k o,k<ops.size->ops[at_ ops k]? =some o->Ek z o->k<p)/\(p=0\/ ∃o,ops[at_ ops (p - 1)]? =some o/\Ek z o):=by
  have: ∀n,n<=ops.size-> ∃p,p<=n/\(∀k o,k<n->ops[at_ ops k]? =some o->Ek z o->k<p)/\(p=0\/ ∃o,ops[at_ ops (p - 1)]? =some o/\Ek z o):=by
   intro n
   induction n with
   | zero=>grind
   | succ n ih=>
    intro hn;obtain ⟨p,hp,hk,hlast⟩:=ih (by omega);have hlt:=ZN (ops:=ops) (k:=n) (by omega);have hx:ops[at_ ops n]? =some ops[at_ ops n]:=(by simp [hlt]);by_cases e:Ek z ops[at_ ops n]
    .exact ⟨n+1,Aq _,fun k o h _ _=>h,.inr ⟨_,hx,e⟩⟩
    .refine ⟨p,by omega,fun k o h ho hnw=> ?_,hlast⟩;by_cases hkn:k=n
     .grind
     .exact hk k o (by omega) ho hnw
  simp_all
 obtain ⟨p,hp,hpk,hlast⟩:=hA;have noch: ∀k o,k<p->ops[at_ ops k]? =some o-> ¬EP z o:=by
  intro k o hk ho hc;rcases hlast with h0 | ⟨x,hx,hnw⟩
  .omega
  .by_cases hkp:k=p - 1
   .rw [<-hkp,ho] at hx;obtain rfl:=Ag hx;rcases hc with h | h <;> rcases hnw with h' | h' <;> rw [h] at h' <;> cases h'
   .have nal:isAlloc ops (at_ ops k)=false:=by
     cases e:isAlloc ops (at_ ops k) with
     | false=>rfl
     | true=>
      have:=(Je (z:=z) ho).1 e;rcases hc with h | h <;> rw [h] at this <;> cases this
    rcases FH (ops:=ops) (k1:=k) (k2:=p - 1) (by omega) (by omega) with ⟨h3,_⟩ | ⟨h3,h4⟩
    .grind
    .rw [nal] at h3;rcases hnw with hnw | hnw
     .grind [Je]
     .exact g.chk.birth _ _ _ _ h4 ho hx hnw hc
 have stepAt: ∀k,k<p->((f (k+1)).mem =(f k).mem /\(f (k+1)).next =(f k).next)\/ ∃cells ty,(f (k+1)).mem =Wv (f k).mem (f k).next (some ⟨cells,ty,none⟩)/\(f (k+1)).next =(f k).next +1:=by
  intro k hk;obtain ⟨o,ho,s⟩:=g.step' (k:=k) (by omega);rcases NL z o with h | h | h | h
  .exact .inl (s.stay (by rcases h with h | h <;> simp [h]))
  .exact .inl (s.stay (.inr (.inl h)))
  .obtain ⟨cells,ty,h1,h2,_⟩:=s.fresh (g.ob _ (by omega)) h (g.chk.guard _ o ho h)
   grind
  grind
 have start: ∀k,k<=p->CH ρ (f k).mem (f k).next w/\Ev ρ ρ cx.floor st.mem st.next (f k).mem (f k).next w w:=by
  intro k
  induction k with
  | zero=>intro _;rw [g.f0];exact ⟨eI,Ev.refl _ _ _ _ _ eI.dom⟩
  | succ k ih=>
   intro hk;obtain ⟨hr,he⟩:=ih (by omega);rcases stepAt k (by omega) with ⟨h3,h4⟩ | ⟨cells,ty,h3,h4⟩
   .grind
   .rw [h3,h4];refine ⟨hr.unborn _,he.trans ⟨CF.le_refl _,fun _ _=>rfl,B4 _,fun b hb _ cs ty hm=>by grind [Zw],fun _ _ h _=>h,fun b l hb hl=>by have:=hr.dom b l hl;omega,Aq _,rfl,rfl,rfl,fun _ _=>rfl⟩⟩
 have later: ∀k k',(f (k+1)).next =(f k).next +1->k<k'->k'<=p->(f k).next <(f k').next /\Yi (f k').mem (f k).next =Yi (f (k+1)).mem (f k).next :=by
  intro k k' hk1 hk
  induction k' with
  | zero=>omega
  | succ k' ih=>
   intro hk';by_cases e:k=k'
   .grind
   .obtain ⟨h1,h2⟩:=ih (by omega) (by omega);rcases stepAt k' (by omega) with ⟨h3,h4⟩ | ⟨cells,ty,h3,h4⟩;all_goals grind [Zw]
 obtain ⟨hrp,hep⟩:=start p (Aq _);refine ⟨p,?_,hd,eP.size,?_,?_,hp,hpk,?_,hrp,hep,fun k q o x b ab _ hqp _ _ hx _ hc=>absurd hc (noch q x hqp hx),?_⟩
 .intro j o _ hs;grind
 .grind
 .intro t _;exact eP.get t
 .grind
 .intro k o hk ho hnw _;have hkp:k<p:=hpk k o hk ho hnw;obtain ⟨o',ho',s⟩:=g.step' (k:=k) hk;rw [ho] at ho';obtain rfl:=Ag ho';obtain ⟨cells,ty,h3,h4,_⟩:=s.fresh (g.ob _ (by omega)) hnw (g.chk.guard _ o ho hnw);obtain ⟨h5,h6⟩:=later k p h4 hkp (Aq _);have hge:st.next<=(f k).next :=by have:=g.next_le (a:=0) (b:=k) (AA _) (by omega);rw [g.f0] at this;exact this
  refine ⟨hge,h5,?_,h6⟩;cases e:ρ (f k).next with
  | none=>rfl
  | some l=>have:=eI.dom _ l e;omega
theorem z9t {S:CC} {R:CK} (hN:EL P) (hS:Zu P S) (hRI:Et R) (hR:Gd P R) {st':St} (hcx:cx.floor<=st.next) (fI:Mq z ops=true)
  (h:RJ z P S R ops cx (JB ops) [] st=some st') (ho:st'.ob=true) {ρ:CF} {a:Act} {w:World} (hd:a.defers=D) (eP:Vx ρ st.env cx.n a.tmps) (eI:CH ρ st.mem st.next w):
  wpAny P .any ops (Ip D ρ cx st st' w) ops.size (Array.replicate ops.size false) a w:=by
 obtain ⟨f,f0,fn,fs,_,fp⟩:=z3j (JB ops) [] st st' h;have eK:(JB ops).length =ops.size:=by simp [JB,Xr]
 rw [eK] at fn;have fN: ∀(k:Nat) (hk:k<(Ya ops).length),cx.floor<=(f k).next ->ZL S z P ops cx (EM ops (Ya ops)[k],ops.getD (Ya ops)[k] default) (f k) (f (k+1)):=by
  grind [JB,w8b]
 have hnx: ∀k,k<=ops.size->cx.floor<=(f k).next :=by
  intro k
  induction k with
  | zero=>grind
  | succ k ih=>intro hk;have hc:=ih (by omega);exact AI hc (fN k (by rw [Xr];omega) hc).inv.nxt
 have hob: ∀k,k<=ops.size->(f (ops.size - k)).ob =true:=by
  intro k
  induction k with
  | zero=>grind
  | succ k ih=>
   intro hk;have hk':ops.size - (k+1)<(Ya ops).length :=by rw [Xr];omega
   have s:=fN _ hk' (hnx _ (by omega));refine s.inv.ob ?_
   grind
 have g:DY S z P ops cx st f:=⟨z8k fI,f0,hcx,fun k hk=>by
  have:=hob (ops.size - k) (by omega);rwa [show ops.size - (ops.size - k)=k by omega] at this,fun k hk=>fN k hk (hnx k (by rw [Xr] at hk;omega)),fun q k hq hk=>by
   have:=fp q k hq (by grind [Xr]);simp_all [JB]⟩
 obtain ⟨p,I⟩:=v7m g hd eP eI;have:=u5w g eP.out eI.bd ops.size (Array.replicate ops.size false) p ρ a w (by simp) (by
  rw [List.countP_eq_length.2];all_goals simp_all) I
 grind
theorem x0x {S:CC} {R:CK} (hRI:Et R): ∀(l:List (Bool×Oper)) (st st':St),ZG P S R ops cx l st=some st'->Xd cx.floor st st'
 | [],st,st',h=>by
  have h:some st=some st':=h
  grind [Xd.refl]
 | x::l,st,st',h=>by
  rw [y6w,B0] at h;obtain ⟨st1,h1,h2⟩:=h;refine Xd.trans ?_ (x0x hRI l st1 st' h2);unfold H3 at h1;split at h1
  .cases h1
  .rename_i st2 hw;obtain ⟨w1,w2,w3⟩:=Wd hw;refine (Xd.same w1 w2 fun h=>(w3 h).1).trans ?_;unfold Mu at h1;split at h1
   .split at h1
    .rename_i st3 ho;obtain ⟨_,e2,e3,e4⟩:=Wu ho;obtain ⟨p1,p2,p3,_⟩:=Vz h1;exact (Xd.same e2 e3 fun h=>(e4 h).2).trans (Xd.same p1 p2 fun h=>by rw [<-p3];exact h)
    .cases h1
   .split at h1
    .rename_i v st3 he;obtain ⟨p1,p2,p3,_⟩:=Vz h1;exact (y9a hRI he).1.trans (Xd.same p1 p2 fun h=>by rw [<-p3];exact h)
    .cases h1
  .rename_i st2 hw;obtain ⟨w1,w2,w3⟩:=Wd hw;obtain ⟨p1,p2,p3,_⟩:=Vz h1;exact (Xd.same w1 w2 fun h=>(w3 h).1).trans (Xd.same p1 p2 fun h=>by rw [<-p3];exact h)
theorem v3k {S:CC} {R:CK} (hRI:Et R) {x:Bool×Oper} {st st':St} (h:Mw z P S R ops cx x st=some st'):Xd cx.floor st st':=by
 unfold Mw at h;cases hz:NG z x.2.op with
 | false=>
  rw [hz,Aa] at h;cases hz2:isBirth z x.2.op with
  | true=>
   rw [hz2,Ab] at h;split at h
   .cases h
   .rename_i st2 hw;obtain ⟨w1,w2,w3⟩:=Wd hw;unfold y8k at h;split at h
    .split at h
     .obtain ⟨p1,p2,p3,_⟩:=Vz h;exact ((Xd.same w1 w2 fun h=>(w3 h).1).trans (Xd.new _ _ _)).trans (Xd.same p1 p2 fun h=>by grind)
     .cases h
    .cases h
   .rename_i st2 hw;obtain ⟨w1,w2,w3⟩:=Wd hw
    grind [Vz,Xd.same]
  | false=>rw [hz2,Aa] at h;exact x0x hRI [x] st st' (by rw [y6w,h];rfl)
 | true=>
  rw [hz,Ab] at h;split at h
  .cases h
  .rename_i st2 hw;obtain ⟨w1,w2,w3⟩:=Wd hw
   grind [w1s,Vz,Xd.same]
  .rename_i st2 hw;obtain ⟨w1,w2,w3⟩:=Wd hw
   grind [Vz,Xd.same]
theorem y6x {S:CC} {R:CK} (hRI:Et R) (l:List (Nat×Bool×Oper)) (acc:List Dj) (st st':St) (h:RJ z P S R ops cx l acc st=some st'):Xd cx.floor st st':=by
 obtain ⟨f,f0,fn,fs,_,_⟩:=z3j l acc st st' h;have: ∀k,k<=l.length->Xd cx.floor st (f k):=by
  intro k
  induction k with
  | zero=>intro _;rw [f0];exact Xd.refl _ _
  | succ k ih=>
   intro hk;refine (ih (by omega)).trans ?_
   grind [v3k]
 grind
end
section
variable {P:Program}
theorem x5z {H:EK} {w:World} (hH: ∀k o,H k=some o->w.heap[k]? =some o) (hG:Glob H):CH (rhoOf H) .leaf 0 w:=
 ⟨(fun b l h=>by cases h),(fun b b' l l' h=>by cases h),(fun b l ab h=>by cases h),hH,(fun b l h=>by cases h),(fun b l h=>by cases h),(fun b _=>rfl),(fun j l h=>by cases h),hG⟩
structure Out (H:EK) (w:World) (ρ:CF) (v:CA) (u:Value) (w':World):Prop where
 val:VRel ρ v u
 le: ∀k o,H k=some o->ρ.fz k=some o
 old: ∀k o,ρ.fz k=some o->w'.heap[k]? =some o
 same: ∀k,k<w.heap.size->ρ.fz k=H k
 below:RowKit.Below w.heap.size w w'
theorem OJ {H:EK} {w w':World} {ρ:CF} {v:CA} {u:Value} {mem:CI} {next floor:Nat} (hv:VRel ρ v u) (hr:CH ρ mem next w') (hev:Ev (rhoOf H) ρ floor .leaf 0 mem next w w'):Out H w ρ v u w':=
 ⟨hv,hev.ext.2.1,hr.old,hev.still,hev.os,hev.tape,hev.output,hev.size,fun k hk=>by
  have:w.heap[k]? =some w.heap[k]:=by simp [hk]
  rw [this];exact hev.frame k _ this fun b l hl=>by cases hl⟩
def Dy :CC:=fun _=>none
theorem Zg :Zu P Dy:=fun f F h=>by cases h
end
end Go.Am
end
