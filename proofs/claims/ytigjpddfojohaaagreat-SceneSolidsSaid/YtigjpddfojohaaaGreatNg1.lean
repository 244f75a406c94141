/- A part of a proof: several texts in one. -/
import Derived.Test.YtigjpddfojohaaaGreatNg0
import Derived.IntWalk
set_option maxRecDepth 1000000
set_option maxHeartbeats 8000000
set_option linter.unusedVariables false
set_option linter.unusedSimpArgs false
noncomputable section
namespace Go.Am
open IntKind (wrap)
section
variable {P:Program} {ρ:CE}
theorem z3l {t u e:TypeId} {ut:TypeDesc} {i:TypeInfo} {type:TypeId} (hu:P.underlying t=some (.slice e)) (hut:P.underlying u=some ut) (hni: ∀k,ut≠ .int k) (hi:P.info? e=some i) {ts:List TypeId} {base:Option Addr} {len n c:Nat} {x:Value} {vs:Array Value} {xs:List Value} {w:World}
  (dA:(Builtin.lenOf x).run P w=.ok n w) (dQ:(Builtin.firstCells i.size n x).run P w=.ok vs w) (dF:len+n<=c) {w':World}
  (hst: ∀a,base=some a->(storeCells (a.add (len*i.size)) vs.toList).run P w=.ok () w') (hno:base=none->w'=w):
  (Builtin.append_ (t::u::ts).toArray type ((.slice base len c)::x::xs).toArray).run P w=.ok (.slice base (len+n) c) w':=by
 cases base with
 | none=>obtain rfl:=hno rfl;simp [Builtin.append_,run_underlying hu,run_underlying hut,Yw hi,dA,dQ,dF]
 | some a=>have:=hst a rfl;simp [Builtin.append_,run_underlying hu,run_underlying hut,Yw hi,dA,dQ,dF,this]
theorem z2c {t u e:TypeId} {ut:TypeDesc} {i:TypeInfo} {type:TypeId} (hu:P.underlying t=some (.slice e)) (hut:P.underlying u=some ut) (hni: ∀k,ut≠ .int k) (hi:P.info? e=some i) {z:Value} (hz:i.zero=some z) {ts:List TypeId} {base:Option Addr} {len n c:Nat} {x:Value} {vs old:Array Value} {xs:List Value} {w:World}
  (dA:(Builtin.lenOf x).run P w=.ok n w) (dQ:(Builtin.firstCells i.size n x).run P w.drew=.ok vs w.drew) (hold:(Builtin.firstCells i.size len (.slice base len c)).run P w.drew=.ok old w.drew)
  (dF:c<len+n) (dX:(len+n+1)*(i.bytes+1)<=1099511627776):
  ∃newCap,len+n<=newCap/\ ∃rest:Array Value,rest.size=(newCap - (len+n))*z.cells.size/\
  (Builtin.append_ (t::u::ts).toArray type ((.slice base len c)::x::xs).toArray).run P w=.ok (.slice (some ⟨w.heap.size,0,none⟩) (len+n) newCap) (w.drew.alloc (.cells (old++vs++rest) e)):=by
 have hmul:len+n+1<=(len+n+1)*(i.bytes+1):=Nat.le_mul_of_pos_right _ (by omega);have hr:=v4s dX dF;have hr': ¬2 ^ 48<Builtin.nextslicecap (len+n) c*i.bytes:=hr;have hr'': ¬281474976710656<Builtin.nextslicecap (len+n) c*i.bytes:=hr;have h1: ¬len+n<=c:=by omega
 have h2: ¬(9223372036854775807<(len:Int)+(n:Int)):=by omega
 have hq:(Question.appendCap (len+n) c e).forced =false:=rfl;have hzero: ∀w,(zeroValue e).run P w=.ok z w:=fun w=>by simp [zeroValue,run_typeInfo w hi,hz]
 refine ⟨(Question.appendCap (len+n) c e).cut (w.tape w.drawn (Question.appendCap (len+n) c e)),by simp only [Question.cut];omega,Builtin.zeroCells z.cells ((Question.appendCap (len+n) c e).cut (w.tape w.drawn (Question.appendCap (len+n) c e)) - (len+n)),by simp [Builtin.zeroCells],?_⟩;have hty: ∀w,(typeInfo e).run P w=.ok i w:=fun w=>run_typeInfo w hi;simp [Builtin.append_,run_underlying hu,run_underlying hut,Yw hi,dA,h1,h2,hty,hr'',hq,dQ,hold,hzero,newRow]
theorem Vo.append {a b:zy} {us vs:Array Value} (h:Vo ρ a us) (k:Vo ρ b vs):Vo ρ (a++b) (us++vs):=by
 refine ⟨by simp [h.1,k.1],fun i h1 h2=> ?_⟩;by_cases hi:i<a.length
 .rw [Bu hi,Array.getElem_append_left (by rw [<-h.1];exact hi)];exact h.2 i hi (by rw [<-h.1];exact hi)
 .rw [Bm (by omega),Array.getElem_append_right (by rw [<-h.1];omega)];have e:=h.1;simp only [e];exact k.2 (i - us.size) (by grind) (by grind)
theorem W5 {st:St} {w:World} (h:CF ρ st.mem st.next w) (floor:Nat) {cs:zy} {vs:Array Value} (hr:Vo ρ cs vs) (rest:Array Value) (ty el:TypeId) (v:B9) (u:Value)
  (dO: ∀ρ',ρ' st.next=some ⟨w.heap.size,0,cs.length,vs.size+rest.size⟩->Yv ρ' v u) (hel:el=ty:=by rfl):
  Dc ρ floor st (Cr st cs ty) v w (Vb ρ st.next ⟨w.heap.size,0,cs.length,vs.size+rest.size⟩) u (w.drew.alloc (.cells (vs++rest) el)):=by
 have hd:CF ρ st.mem st.next w.drew:=h.drawn _
 have:=RP hd floor cs ty (vs++rest) el (by rw [hr.1];simp) (fun i h1 h2=>by
  rw [Array.getElem_append_left (by rw [<-hr.1];exact h1)];exact hr.2 i h1 (by rw [<-hr.1];exact h1)) v u (fun ρ' hρ'=>dO ρ' (by simp_all)) hel
 simp only [Array.size_append] at this;exact ⟨this.val,this.rel,this.ev.drawn⟩
theorem Qi {α:Type} {c:Bool} {x:Option α} {y:α} (h:(bif c then x else none)=some y):c=true/\x=some y:=by grind
structure u5w (P:Program) (ρ:CE) (t u e:TypeId) (i:TypeInfo) (z:Value) (ux:Value) (n:Nat) (new:zy) (vs:Array Value) (w:World):Prop where
 rel:Vo ρ new vs
 hin: ∀{type:TypeId} {ts:List TypeId} {base:Option Addr} {len c:Nat} {xs:List Value},(n=0\/(n+1)*(i.bytes+1)<=1099511627776)->len+n<=c-> ∀{w':World},(∀a,base=some a->(storeCells (a.add (len*i.size)) vs.toList).run P w=.ok () w')->(base=none->w'=w)->
  (Builtin.append_ (t::u::ts).toArray type ((.slice base len c)::ux::xs).toArray).run P w=.ok (.slice base (len+n) c) w'
 hnew: ∀{type:TypeId} {ts:List TypeId} {base:Option Addr} {len c:Nat} {xs:List Value} {old:Array Value},(Builtin.firstCells i.size len (.slice base len c)).run P w.drew=.ok old w.drew->c<len+n->(len+n+1)*(i.bytes+1)<=1099511627776->
  ∃newCap,len+n<=newCap/\ ∃rest:Array Value,rest.size=(newCap - (len+n))*z.cells.size/\
   (Builtin.append_ (t::u::ts).toArray type ((.slice base len c)::ux::xs).toArray).run P w=.ok (.slice (some ⟨w.heap.size,0,none⟩) (len+n) newCap) (w.drew.alloc (.cells (old++vs++rest) e))
theorem y9t {n:Int} {bytes:Nat} (h0:0<=n) (h:n.toNat=0\/(n.toNat+1)*(bytes+1)<=1099511627776):IntKind.i64.wrap n=n/\n*(bytes:Int)<=281474976710656:=by
 grind [IntWalk.i64_in]
theorem Jn {mem:CJ} {next:Nat} {w:World} (h:CF ρ mem next w) {t u e:TypeId} {ut:TypeDesc} {i:TypeInfo} {z:Value} {zero:zy} {x:B9} {ux:Value} {n:Nat} {new:zy} (hu:P.underlying t=some (.slice e)) (hut:P.underlying u=some ut) (hi:P.info? e=some i) (hz:i.zero=some z)
  (hzr:Vo ρ zero z.cells) (hzl:zero.length=i.size) (hc:Uo mem i.size zero ut x=some (n,new)) (hx:Yv ρ x ux) (hnl:new.length=n*i.size): ∃vs,u5w P ρ t u e i z ux n new vs w:=by
 unfold Uo at hc;split at hc
 .rename_i kt;split at hc
  .rename_i k m;obtain ⟨h0,hc⟩:=Qi hc;have h0:=Ax h0;simp only [Ad,Ae] at hc;obtain ⟨rfl,rfl⟩:=hc;cases hx;have hzs:z.cells.size=i.size:=by rw [<-hzr.1];exact hzl
   refine ⟨Builtin.zeroCells z.cells m.toNat,?_,?_,?_⟩
   .exact Rh hzr m.toNat (m.toNat*z.cells.size) (by rw [hzr.1])
   .intro type ts base len c xs hr dF w' hst hno;obtain ⟨hw,hb⟩:=y9t h0 hr;have hb': ¬281474976710656<m*(i.bytes:Int):=(by omega);have hlt: ¬m<0:=(by omega);have hzv: ∀w,(zeroValue e).run P w=.ok z w:=fun w=>by simp [zeroValue,run_typeInfo w hi,hz]
    have hty: ∀w,(typeInfo e).run P w=.ok i w:=fun w=>run_typeInfo w hi;by_cases hz0:m.toNat*i.size=0
    .have hze:Builtin.zeroCells z.cells m.toNat= #[]:=(by simp [Builtin.zeroCells,hzs,hz0]);rw [hze] at hst;cases base with
     | none=>obtain rfl:=hno rfl;simp [Builtin.append_,run_underlying hu,run_underlying hut,Yw hi,asInt,asIntOf,hw,hlt,hty,hb',dF,hz0]
     | some a=>have:=hst a rfl;simp only [] at this;simp [Builtin.append_,run_underlying hu,run_underlying hut,Yw hi,asInt,asIntOf,hw,hlt,hty,hb',dF,hz0,this]
    .cases base with
     | none=>obtain rfl:=hno rfl;simp [Builtin.append_,run_underlying hu,run_underlying hut,Yw hi,asInt,asIntOf,hw,hlt,hty,hb',dF,hz0,hzv]
     | some a=>have:=hst a rfl;simp [Builtin.append_,run_underlying hu,run_underlying hut,Yw hi,asInt,asIntOf,hw,hlt,hty,hb',dF,hz0,hzv,this]
   .intro type ts base len c xs old hold dF dX;have hr:m.toNat=0\/(m.toNat+1)*(i.bytes+1)<=1099511627776:=.inr (AG (AB _ (by omega)) dX);obtain ⟨hw,hb⟩:=y9t h0 hr;have hb': ¬281474976710656<m*(i.bytes:Int):=(by omega);have hlt: ¬m<0:=(by omega);have hmul:len+m.toNat+1<=(len+m.toNat+1)*(i.bytes+1):=Nat.le_mul_of_pos_right _ (by omega);have hr0:=v4s dX dF;have hr'': ¬281474976710656<Builtin.nextslicecap (len+m.toNat) c*i.bytes:=hr0;have h1: ¬len+m.toNat<=c:=(by omega);have h2: ¬(9223372036854775807<(len:Int)+(m.toNat:Int)):=(by omega);have h2': ¬(9223372036854775807<(len:Int)+max m 0):=(by omega);have hq:(Question.appendCap (len+m.toNat) c e).forced =false:=rfl;have hzv: ∀w,(zeroValue e).run P w=.ok z w:=fun w=>by simp [zeroValue,run_typeInfo w hi,hz]
    have hty: ∀w,(typeInfo e).run P w=.ok i w:=fun w=>run_typeInfo w hi;refine ⟨(Question.appendCap (len+m.toNat) c e).cut (w.tape w.drawn (Question.appendCap (len+m.toNat) c e)),by simp only [Question.cut];omega,Builtin.zeroCells z.cells ((Question.appendCap (len+m.toNat) c e).cut (w.tape w.drawn (Question.appendCap (len+m.toNat) c e)) - (len+m.toNat)),by simp [Builtin.zeroCells],?_⟩;by_cases hz0:m.toNat*i.size=0
    .have hze:Builtin.zeroCells z.cells m.toNat= #[]:=(by simp [Builtin.zeroCells,hzs,hz0]);simp [Builtin.append_,run_underlying hu,run_underlying hut,Yw hi,asInt,asIntOf,hw,hlt,hb',h1,h2,h2',hty,hr'',hq,hold,hzv,newRow,hz0,hze]
    .simp [Builtin.append_,run_underlying hu,run_underlying hut,Yw hi,asInt,asIntOf,hw,hlt,hb',h1,h2,h2',hty,hr'',hq,hold,hzv,newRow,hz0]
  .cases hc
 .rename_i hni';have hni: ∀k,ut≠ .int k:=fun k hk=>hni' k hk;obtain ⟨dA,dQ⟩:=Vf (P:=P) h hc hx hnl;obtain ⟨vs,hvs,hfc⟩:=dQ n (Ar _);rw [A3 (by omega)] at hvs;have eV:(Builtin.firstCells i.size n ux).run P w=.ok vs w:=hfc w.drawn;have hfc1:(Builtin.firstCells i.size n ux).run P w.drew=.ok vs w.drew:=hfc (w.drawn+1);exact ⟨vs,hvs,fun _ dF _ hst hno=>z3l hu hut hni hi (dA w) eV dF hst hno,fun hold dF dX=>z2c hu hut hni hi hz (dA w) hfc1 hold dF dX⟩
theorem x5l {w:World} {x:Obj} {n:Nat} {k:Nat} {o:Obj} (h:w.heap[k]? =some o):(World.alloc {w with drawn:=n} x).heap[k]? =some o:=by
 have:k<w.heap.size:=(AI.1 h).1;show (w.heap.push x)[k]? =some o
 grind
theorem x8p {w:World} {k:Nat} {cur:Array Value} {el:TypeId} {vs:List Value} {m:Nat} (hw:w.heap[k]? =some (.cells cur el (0,0))) (hm:m+vs.length<=cur.size):
  ∃cs1,(w.setRow k (cur.toList.take m++vs++cur.toList.drop (m+vs.length)).toArray).heap[k]? =some (.cells cs1 el (0,0))/\cs1.size=cur.size/\ ∀j,j<m->cs1[j]? =cur[j]? :=by
 have hc:cur.toList.length=cur.size:=Array.length_toList;refine ⟨_,setRow_heap w k cur _ el (0,0) hw,by simp;omega,fun j hj=> ?_⟩
 grind
def t0k (ρ:CE) (m:CJ) (xs:zy) (w w':World):Prop:=
 (∀(b off len z b2 o2 n2:Nat) (c2:FO) (r:zy) (blk:CG) (l:C3),xs=.sl b off len (.un z)::.sl b2 o2 n2 c2::r->1<=n2->Yn m b=some blk->off+len*z=blk.cells.length->ρ b=some l->Wn ρ w' blk l)/\
 ∀r:zy,xs=.nils ::r-> ∀(k:Nat) (o:Obj),w.heap[k]? =some o->w'.heap[k]? =some o
theorem w1p {m:CJ} {sz:Nat} {zero:zy} {ut:TypeDesc} {b o n2:Nat} {c:FO} {n:Nat} {new:zy} (h:Uo m sz zero ut (.sl b o n2 c)=some (n,new)):n=n2:=by
 have key:Xp m sz (.sl b o n2 c)=some (n,new)->n=n2:=fun h=>by
  simp only [Xp] at h;cases hm:Yn m b with
  | none=>grind
  | some blk=>rw [hm] at h;obtain ⟨_,h⟩:=N0 h;simp_all
 cases ut <;> first | exact key h | (cases h;done)
theorem XF {st st' :St} {w:World} (h:CF ρ st.mem st.next w) (floor:Nat) {ts:Array TypeId} {type:TypeId} {xs:zy} {us:Array Value} {v:B9} (ha:GC P floor st ts.toList xs=some (v,st')) (hx:Vg (Yv ρ) xs us.toList) (hty:tyOk P st.mem ts.toList xs=true):
  ∃ρ' u w',(Builtin.append_ ts type us).run P w=.ok u w'/\Dc ρ floor st st' v w ρ' u w'/\(st'.env=st.env/\st'.ob=st.ob)/\t0k ρ st.mem xs w w':=by
 obtain ⟨ts⟩:=ts;obtain ⟨us⟩:=us;simp only at ha hx;unfold GC at ha;split at ha
 .rename_i t tu tts s x txs;cases hx with
  | @cons _ su _ _ hs hx=>
   cases hx with
   | @cons _ ux _ uxs hx _=>
    split at ha
    .rename_i e ut hu hut;split at ha
     .rename_i i zero hi hz;split at ha
      .rename_i n new hcs;obtain ⟨i2,z,hi2,hz2,hzr,_⟩:=We (ρ:=ρ) hz;obtain rfl:i=i2:=by grind
       cases hc:(Nat.beq zero.length i.size&&Nat.beq new.length (n*i.size)&&Nat.ble 1 i.size&&new.all Cz) with
       | false=>grind
       | true =>
        rw [hc,Ab] at ha;simp only [Ac] at hc;obtain ⟨⟨⟨hzl,hnl⟩,hsz⟩,hsc⟩:=hc;have hzl:=Aj hzl;have hnl:=Aj hnl;have hsz:=Al hsz;have hzs:z.cells.size=i.size:=by rw [<-hzr.1];exact hzl
        obtain ⟨vs,hF⟩:=Jn (P:=P) h hu hut hi hz2 hzr hzl hcs hx hnl;have hvs:=hF.rel;have hvsz:vs.size=n*i.size:=by rw [<-hvs.1];exact hnl
        have dP:=Yv.cells_oneCell hvs hsc;split at ha
        ·-- nil
         cases hs;cases hn0:Nat.beq n 0 with
         | true=>rw [hn0,Ab] at ha;simp only [Ad,Ae] at ha;obtain ⟨rfl,rfl⟩:=ha;have hn0:=Aj hn0;subst hn0;have dB:=hF.hin (type:=type) (ts:=tts) (base:=none) (len:=0) (c:=0) (xs:=uxs) (.inl rfl) (Ar _) (w':=w) (fun a e=>by cases e) (fun _=>rfl);exact ⟨ρ,_,w,dB,⟨.nils,h,Ev.refl _ _ _ _ _ h.dom⟩,⟨rfl,rfl⟩,(fun _ _ _ _ _ _ _ _ _ _ _ e=>by cases e),fun _ _ _ _ h=>h⟩
         | false=>
          rw [hn0,Aa] at ha;cases hrm:Nat.ble ((n+1)*(i.bytes+1)) Jm with
          | false=>grind
          | true=>
           rw [hrm,Ab] at ha;simp only [Ad,Ae] at ha;obtain ⟨rfl,rfl⟩:=ha;have hrm:=Al hrm;have hnpos:0<n:=by
            grind
           obtain ⟨newCap,dH,rest,dS,dB⟩:=hF.hnew (type:=type) (ts:=tts) (base:=none) (len:=0) (c:=0) (xs:=uxs) (old:= #[]) (by simp [Builtin.firstCells]) (by omega) (by simpa [Jm] using hrm);simp only [Ah,Array.empty_append] at dB dH dS;have hsum:vs.size+rest.size=newCap*i.size:=by rw [hvsz,dS,hzs,<-AR];grind
           refine ⟨_,_,_,dB,W5 h floor hvs rest e e _ _ (fun ρ' hρ'=> ?_),⟨rfl,rfl⟩,(fun _ _ _ _ _ _ _ _ _ _ _ e=>by cases e),fun _ _ k o h=>x5l h⟩;refine .sl _ 0 _ _ _ _ hρ' ?_ dH
           grind [D2]
        ·-- a slice
         rename_i b off len cap;split at ha
         .rename_i blk hm;split at ha
          .rename_i old hold;cases hrm: !blk.isObj&&Nat.ble ((len+n+1)*(i.bytes+1)) Jm with
           | false=>grind
           | true =>
            rw [hrm,Ab] at ha;simp only [Ac,A8] at hrm;obtain ⟨hno,hrm⟩:=hrm;have hrm:=Al hrm;have hrn:n=0\/(n+1)*(i.bytes+1)<=1099511627776:=.inr (AG (AB _ (by omega)) hrm);cases hs with
            | sl _ _ _ _ l c hρ dH hlc=>
             obtain ⟨hpold,holdl,holdle⟩:=NM hold;have eF:=(h.blk b l blk hρ hm).at hno;have hln:=eF.n;have hmul:(len+n)*i.size=len*i.size+n*i.size:=AR _ _ _;have hoff:off+len*i.size<=blk.cells.length\/len*i.size=0:=(by omega);have hcos:Xp st.mem i.size (.sl b off len cap)=some (len,old):=(by simp [Xp,hm,hold,hno]);obtain ⟨_,hfo⟩:=Vf (P:=P) h hcos (.sl b off len cap l c hρ dH hlc) holdl;obtain ⟨ovs,hovs,hof⟩:=hfo len (Ar _);rw [A3 (by omega)] at hovs;have hovz:ovs.size=len*i.size:=by rw [<-hovs.1];exact holdl
             have hof1:(Builtin.firstCells i.size len (.slice (some ⟨l.blk,l.base+off,none⟩) len c)).run P w.drew=.ok ovs w.drew:=hof (w.drawn+1);have inplace: ∀v st',len+n<=c->floor<=b->off+(len+n)*i.size<=blk.cells.length->
               some (B9.sl b off (len+n) cap,st.withMem (Wv st.mem b (some ⟨blk.cells.take (off+len*i.size)++new++blk.cells.drop (off+(len+n)*i.size),blk.ty,none⟩)))=some (v,st')->(∀z,cap=.un z->z=i.size)->
               ∃ρ' u w',(Builtin.append_ (t::tu::tts).toArray type ((.slice (some ⟨l.blk,l.base+off,none⟩) len c)::ux::uxs).toArray).run P w=.ok u w'/\Dc ρ floor st st' v w ρ' u w'/\(st'.env=st.env/\st'.ob=st.ob)/\t0k ρ st.mem (.sl b off len cap::x::txs) w w':=by
              intro v st' dF hfl dJ he hzc;simp only [Ad,Ae] at he;obtain ⟨rfl,rfl⟩:=he;obtain ⟨cur,el,hw,hcsz,cZ⟩:=h.write hρ hm (off:=off+len*i.size) (cs:=new) (vs:=vs.toList) hno (by grind) (by omega) (fun j h1 h2=>by simpa using hvs.2 j h1 (by grind));have hst:=run_storeCells_at P l.blk (l.base+off+len*i.size) el vs.toList 0 cur w hw (by grind) dP;rw [Bg] at hst;have dB:=hF.hin (type:=type) (ts:=tts) (base:=some ⟨l.blk,l.base+off,none⟩) (len:=len) (c:=c) (xs:=uxs) hrn dF (w':=w.setRow l.blk (cur.toList.take (l.base+off+len*i.size)++vs.toList++cur.toList.drop (l.base+off+len*i.size+vs.toList.length)).toArray)
               (fun a e=>by cases e;rw [Xh];exact hst) (fun e=>by cases e)
              refine ⟨ρ,_,_,dB,⟨.sl _ _ _ _ l c hρ dH (by omega),?_,Ev.ofWrite h hρ hfl _ _⟩,⟨rfl,rfl⟩,(fun b' off' len' z b2 o2 n2 c2 r blk' l' e hn hm' hend hl'=> ?keep),fun _ e=>by cases e⟩
              case keep=>exfalso;cases e;obtain rfl:=hzc _ rfl;rw [hm] at hm';obtain rfl:=Ag hm';obtain rfl:=w1p hcs;have:1*i.size<=n*i.size:=AB _ hn;omega
              have e1:off+len*i.size+new.length=off+(len+n)*i.size:=(by omega);rw [e1] at cZ
              simpa only [St.withMem,AL] using cZ
             have anew: ∀v st' (st1:St),c<len+n->CF ρ st1.mem st1.next w->Ev ρ ρ floor st.mem st.next st1.mem st1.next w w->st1.env=st.env->st1.ob=st.ob->
               some (B9.sl st1.next 0 (len+n) (.un i.size),Cr st1 (old++new) e)=some (v,st')->
               ∃ρ' u w',(Builtin.append_ (t::tu::tts).toArray type ((.slice (some ⟨l.blk,l.base+off,none⟩) len c)::ux::uxs).toArray).run P w=.ok u w'/\Dc ρ floor st st' v w ρ' u w'/\(st'.env=st.env/\st'.ob=st.ob)/\t0k ρ st.mem (.sl b off len cap::x::txs) w w':=by
              intro v st' st1 dF dY hev1 dD hob he;simp only [Ad,Ae] at he;obtain ⟨rfl,rfl⟩:=he;obtain ⟨newCap,eW,rest,dS,dB⟩:=hF.hnew (type:=type) (ts:=tts) (base:=some ⟨l.blk,l.base+off,none⟩) (len:=len) (c:=c) (xs:=uxs) hof1 dF (by simpa [Jm] using hrm);have hov:=hovs.append hvs;have hsum:(ovs++vs).size +rest.size=newCap*i.size:=by rw [Array.size_append,hovz,hvsz,dS,hzs,<-AR,<-AR];grind
              have hp:=W5 dY floor hov rest e e (.sl st1.next 0 (len+n) (.un i.size)) (.slice (some ⟨w.heap.size,0,none⟩) (len+n) newCap) (fun ρ' hρ'=>by
               refine .sl _ 0 _ _ _ _ hρ' ?_ eW
               grind [D2])
              refine ⟨_,_,_,dB,⟨hp.val,hp.rel,hev1.trans hp.ev⟩,⟨?_,?_⟩,(fun b' off' len' z b2 o2 n2 c2 r blk' l' e hn hm' hend hl'=> ?keep),fun _ e=>by cases e⟩
              case keep=>have hq:=h.blk b' l' blk' hl' hm';refine hq.world (CE.le_refl ρ) ?_;obtain ⟨_,g1⟩:=hq.some;rw [g1];exact x5l g1
              all_goals simp_all [Cr]
             split at ha
             ·-- the capacity is known
              rename_i k;simp only [D2] at dH;subst dH;cases hk:Nat.ble (len+n) c with
              | true=>
               rw [hk,Ab] at ha;have hk:=Al hk;cases hf:(Nat.ble floor b&&Nat.ble (off+(len+n)*i.size) blk.cells.length) with
               | false=>grind
               | true=>rw [hf,Ab] at ha;simp_all
              | false=>
               rw [hk,Aa] at ha;have hk: ¬len+n<=c:=fun e=>by rw [AV e] at hk;cases hk
               exact anew _ _ st (by omega) h (Ev.refl _ _ _ _ _ h.dom) rfl rfl ha
             ·-- it is not
              rename_i zz;simp only [D2] at dH;cases hf:(Nat.beq zz i.size&&Nat.ble floor b) with
              | false=>grind
              | true=>
               rw [hf,Ab] at ha;simp only [Ac] at hf;have hzz:=Aj hf.1;have hfl:=Al hf.2;subst hzz;cases hk:Nat.ble (off+(len+n)*i.size) blk.cells.length with
               | true=>
                rw [hk,Ab] at ha;have hk:=Al hk;have dF:len+n<=c:=by rw [hln] at dH;have:(len+n)*i.size<=c*i.size:=(by omega);exact Nat.le_of_mul_le_mul_right this hsz
                grind
               | false=>
                rw [hk,Aa] at ha;cases hend:Nat.beq (off+len*i.size) blk.cells.length with
                | false=>grind
                | true=>
                 rw [hend,Ab] at ha;have hend:=Aj hend;by_cases dF:len+n<=c
                 ·-- there is Jm: behind what is told
                  simp only [Ad,Ae] at ha;obtain ⟨rfl,rfl⟩:=ha;have hcm:(len+n)*i.size<=c*i.size:=AB _ dF;obtain ⟨cur,el,hw,hcsz,cZ⟩:=h.beyond hρ hm hno (off:=off) (new:=new) (vs:=vs.toList) e (by grind) (by omega) (by omega) (fun j h1 h2=>by simpa using hvs.2 j h1 (by grind)) (by simpa [tyOk,J4,hu,hm] using hty);have hst:=run_storeCells_at P l.blk (l.base+off+len*i.size) el vs.toList 0 cur w hw (by grind) dP;rw [Bg] at hst;have dB:=hF.hin (type:=type) (ts:=tts) (base:=some ⟨l.blk,l.base+off,none⟩) (len:=len) (c:=c) (xs:=uxs) hrn dF (w':=w.setRow l.blk (cur.toList.take (l.base+off+len*i.size)++vs.toList++cur.toList.drop (l.base+off+len*i.size+vs.toList.length)).toArray)
                   (fun a e=>by cases e;rw [Xh];exact hst) (fun e=>by cases e)
                  have hod:old=blk.cells.drop off:=by rw [hpold];exact A3 (by simp;omega)
                  refine ⟨_,_,_,dB,⟨.sl _ 0 _ _ ⟨l.blk,l.base+off,blk.cells.length - off+new.length,l.tot - off⟩ c (by simp [Vb]) ?_ (by omega),?_,Ev.ofBeyond h hρ hfl ⟨l.blk,l.base+off,blk.cells.length - off+new.length,l.tot - off⟩ rfl _ _⟩,⟨rfl,rfl⟩,(fun b' off' len' z b2 o2 n2 c2 r blk' l' e hn hm' _ hl'=> ?keep),fun _ e=>by cases e⟩
                  case keep=>
                   cases e;rw [hm] at hm';obtain rfl:=Ag hm';rw [hρ] at hl';obtain rfl:=Ag hl';obtain ⟨q0,q1,q2,q3,cs0,el0,q4,q5,q6⟩:=eF;rw [hw] at q4;obtain ⟨rfl,rfl⟩:cur=cs0/\el=el0:=by
                    grind
                   obtain ⟨cs1,s1,s2,s3⟩:=x8p (vs:=vs.toList) hw (m:=l.base+off+len*i.size) (by grind);refine .plain ⟨by rw [s1];grind,q1,q2,q3,cs1,el,s1,by grind,fun k hk=> ?_⟩;obtain ⟨v,r1,r2⟩:=q6 k hk
                   grind
                  .simp only [D2];omega
                  .rw [hod];have e2:l.base+off+len*i.size=l.base+blk.cells.length:=(by omega);rw [e2]
                   simpa only [Cr,St.withMem] using cZ
                 .exact anew _ _ (st.withMem (Wv st.mem b none)) (by omega) (h.kill b) (Ev.ofKill h floor hρ) rfl rfl ha
          .cases ha
         .cases ha
        .cases ha
      .cases ha
     .cases ha
    .cases ha
 .cases ha
theorem w5g {get:Nat->zy} {off len n sz N:Nat} {new:zy} (hl: ∀i,i<N->(get i).length =sz) (hN:off+len=N) (hnew:new.length=n*sz):
  (∀i,i<len+n->(Zf get off len sz new i).length =sz)/\rows (len+n) (Zf get off len sz new)=((rows N get).drop (off*sz)).take (len*sz)++new:=by
 have h1: ∀i,i<len+n->(Zf get off len sz new i).length =sz:=fun i hi=>by
  unfold Zf;cases e:Nat.ble len i with
  | true=>
   have:=Al e;simp only [Ab,Bl,Bv,hnew];have:(i - len+1)*sz<=n*sz:=AB sz (by omega)
   grind
  | false=>
   have: ¬len<=i:=fun h=>by rw [AV h] at e;cases e
   grind
 refine ⟨h1,?_⟩;have dA:=Yg (len+n) h1;have hlenN:=Yg N hl;have hd:((rows N get).drop (off*sz)).length =len*sz:=by rw [Bv,hlenN,<-hN,AR];omega
 rw [A3 (by omega)];apply List.ext_getElem?;intro i;by_cases hi:i<(len+n)*sz
 .have hsz:0<sz:=by
   grind
  have hj:i %sz<sz:=Bx _ hsz;have hq:i / sz<len+n:=Bd (by grind);have e:i=i / sz*sz+i %sz:=by rw [BE];exact (BA i sz).symm
  generalize i / sz=q at*;generalize i %sz=j at*;subst e;rw [Vj (len+n) h1 q j hq hj];unfold Zf;cases e:Nat.ble len q with
  | true=>
   have hle:=Al e;have:len*sz<=q*sz:=AB sz hle;simp only [Ab];rw [List.getElem?_append_right (by omega),hd,List.getElem?_take,AJ hj,List.getElem?_drop]
   congr 1
   rw [Nat.sub_mul];omega
  | false=>
   have hlt:q<len:=by
    rcases A7 q len with h | h
    .exact h
    .rw [AV h] at e;cases e
   have:(q+1)*sz<=len*sz:=AB sz hlt;rw [AR,B3] at this;simp only [Aa];rw [List.getElem?_append_left (by omega),List.getElem?_drop,<-Vj N hl (off+q) j (by omega) hj]
   grind
 grind
theorem w5k (n:Nat) (z:zy):DC n z=rows n fun _=>z:=by unfold DC rows;rw [List.flatMap_def,List.map_const',List.length_range]
theorem Ev.remem {ρ':CE} {floor:Nat} {m m' m'':CJ} {n n':Nat} {w w':World} (h:Ev ρ ρ' floor m n m' n' w w') (hm: ∀b,b<n-> ∀cs ty,Yn m b=some ⟨cs,ty,none⟩->Yn m'' b=Yn m' b):Ev ρ ρ' floor m n m'' n' w w':=
 ⟨h.ext,h.new,h.nxt,fun b hb e cs ty hc=>by rw [hm b hb cs ty hc];exact h.unborn b hb e cs ty hc,h.frame,h.fresh,h.size,h.os,h.tape,h.output,h.still⟩
theorem CF.remem {mem mem':CJ} {next:Nat} {w:World} (h:CF ρ mem next w) (hm: ∀b,Yn mem' b=Yn mem b):CF ρ mem' next w:=
 ⟨h.dom,fun b b' l l' e e' he hs hs'=>h.inj b b' l l' e e' he (by grind) (by grind),fun b l ab e hc=>h.blk b l ab e (by grind),h.old,fun b l e hs=>h.sep b l e (by grind),h.real,fun b hb=>by rw [hm];exact h.bd b hb,h.ldom⟩
theorem y2l {cx:CP} {st st':St} {w:World} (h:CF ρ st.mem st.next w) {t:TypeId} {x y v:B9} {ux uy:Value} (hb:Ku P cx st t x y=some (v,st')) (hob:st'.ob=true) (hx:Yv ρ x ux) (hy:Yv ρ y uy):
  ∃ρ' u w',(Instr.makeSlice t ux uy).run P w=.ok u w'/\Dc ρ cx.floor st st' v w ρ' u w':=by
 unfold Ku at hb;split at hb
 .rename_i e kl l kc c hu;split at hb
  .rename_i i zero hi hz;cases dU:(Nat.beq zero.length i.size&&Nat.ble 1 i.size) with
   | false=>grind
   | true=>
    rw [dU,Ab] at hb;simp only [Ac] at dU;obtain ⟨k1,k2⟩:=dU;have hzl:=Aj k1;simp only [Aq,Ae] at hb;obtain ⟨st1,ho,rfl,rfl⟩:=hb;obtain ⟨o1,o2,o3,o4⟩:=TO ho;obtain ⟨hc,_⟩:=o4 hob;have m2:st1.mem=Wv st.mem st.next (some ⟨rows c.toNat fun _=>zero,e,some ⟨i.size,c.toNat,.flat fun _=>zero⟩⟩):=o2
    have n2:st1.next=st.next+1:=o3
    have h0:Un P st t (.int kl l) (.int kc c)=some (.sl st.next 0 l.toNat (.ex c.toNat),Cr st (DC c.toNat zero) e):=by simp_all [Un]
    obtain ⟨ρ',uv,w',dB,hp,_,_⟩:=z0l h cx.floor h0 hx hy;refine ⟨ρ',uv,w',dB,?_,?_,?_⟩
    .have hv:=hp.val;cases hv with
     | sl _ _ _ _ l' c' hρ' eW eT=>
      have hbk:=hp.rel.blk st.next l' ⟨DC c.toNat zero,e,none⟩ hρ' (Yk _ _ _)
      have hcn:c'=c.toNat:=eW;have q1:=hbk.n;have q2:=hbk.tot;simp only [Sk,hzl] at q1;have:=Yv.sla (ρ:=ρ') st.next i.size 0 l.toNat (.un i.size) l' c' hρ' (by grind [D2]) eT
      grind
    .have hr:CF ρ' (Wv st.mem st.next (some ⟨DC c.toNat zero,e,none⟩)) (st.next+1) w':=hp.rel;rw [w5k] at hr;rw [m2,n2];obtain ⟨_,_,_,_,hzr,_⟩:=We (ρ:=ρ) hz;exact hr.setArr ⟨i.size,c.toNat,_⟩ (S9 (ρ:=ρ) (fun v hv=>.inl (Vo.mem hzr v (w5f hv).choose_spec.2)) _ _) rfl (Al k2) fun _ _=>hzl
    .rw [m2,n2];refine hp.ev.remem fun b' hb' cs ty hcs=> ?_;show _=Yn (Wv st.mem st.next _) b'
     grind [Zv]
  .cases hb
 .cases hb
theorem z7h {cx:CP} {st st':St} {w:World} (h:CF ρ st.mem st.next w) {ts:Array TypeId} {type:TypeId} {xs:zy} {us:Array Value} {v:B9} (ha:NL P cx st ts.toList xs=some (v,st')) (hob:st'.ob=true) (hx:Vg (Yv ρ) xs us.toList) (hty:tyOk P st.mem ts.toList xs=true):
  ∃ρ' u w',(Builtin.append_ ts type us).run P w=.ok u w'/\Dc ρ cx.floor st st' v w ρ' u w'/\ ∀b sz off len z r blk l,xs=.sla b sz off len (.un z)::r->Yn st.mem b=some blk->ρ b=some l->Wn ρ w' blk l:=by
 obtain ⟨ul⟩:=us;simp only at hx;unfold NL at ha;split at ha
 .rename_i t u tr b sz off len z x xr hts;split at ha
  .rename_i e ut hu hut;split at ha
   .cases ha
   .rename_i hni;split at ha
    .rename_i i hi;split at ha
     .rename_i n new zero blk hc hz hm;split at ha
      .rename_i A hA;cases dU:(Nat.beq zero.length i.size&&Nat.beq new.length (n*i.size)&&Nat.ble 1 i.size&&new.all Cz&&Nat.beq sz i.size&&Nat.beq z sz&&Nat.ble cx.floor b&&Nat.ble 1 n) with
       | false=>grind
       | true=>
        rw [dU,Ab] at ha;have hchk0:=dU;simp only [Ac] at dU;obtain ⟨⟨⟨⟨⟨⟨⟨k1,k2⟩,k3⟩,k4⟩,k5⟩,k6⟩,k7⟩,k8⟩:=dU;obtain rfl:=Aj k5;obtain rfl:=Aj k6;have hnl:=Aj k2;have hsz1:=Al k3;have hfl:=Al k7;have hn1:=Al k8;simp only [Aq,Ae] at ha;obtain ⟨st1,ho,rfl,rfl⟩:=ha;obtain ⟨o1,o2,o3,o4⟩:=TO ho;obtain ⟨hb,_⟩:=o4 hob;simp only [Ac,Ao] at hb;obtain ⟨hAs,hfull,dF⟩:=hb;have hAs:=Aj hAs;have hbn:b<st.next:=by
         rcases A7 b st.next with g | g
         .exact g
         .rw [h.bd b g] at hm;cases hm
        have m2:st1.mem=Wv (Wv st.mem b none) st.next (some ⟨rows (len+n) (Zf A.get off len i.size new),e,some ⟨i.size,len+n,Zf A.get off len i.size new⟩⟩):=o2
        have n2:st1.next=st.next+1:=o3
        cases hx with
        | cons ha0 hr=>
         cases ha0 with
         | sla _ _ _ _ _ l c hρ dH dA=>
          have hb0:=(h.blk b l blk hρ hm).rows hA;have hno:=hb0.noObj;obtain ⟨eD,eU,dL⟩:=hb0.arr A hA;rw [hAs] at dL;obtain ⟨q1,q2⟩:=w5g (new:=new) dL hfull hnl;have hlenr:=Yg A.n dL;have hmul:off*i.size+len*i.size=A.n*i.size:=(by grind);have hcut:cut blk.cells (off*i.size) (len*i.size)=some ((blk.cells.drop (off*i.size)).take (len*i.size)):=by
           unfold cut;simp only;rw [show Nat.beq ((blk.cells.drop (off*i.size)).take (len*i.size)).length (len*i.size)=true from by
            rw [Nat.beq_eq];simp [eD,hlenr];omega]
           rfl
          have hroom':Nat.ble ((len+n+1)*(i.bytes+1)) Jm=true:=AV dF;have hnot:Nat.ble (off*i.size+(len+n)*i.size) blk.cells.length=false:=by
           have:1*i.size<=n*i.size:=AB _ hn1;cases g:Nat.ble (off*i.size+(len+n)*i.size) blk.cells.length with
           | false=>rfl
           | true=>
            have:=Al g
            grind
          have Dz:Nat.beq (off*i.size+len*i.size) blk.cells.length=true:=(by simp_all);have h0:GC P cx.floor st ts.toList (.sl b (off*i.size) len (.un i.size)::x::xr)=some (.sl st.next 0 (len+n) (.un i.size),Cr (st.withMem (Wv st.mem b none)) (((blk.cells.drop (off*i.size)).take (len*i.size))++new) e):=by
           rw [hts];unfold GC;simp only [hu,hut,hi,hz]
           grind [Uo]
          obtain ⟨ρ',uv,w',dB,hp,_,hkeep⟩:=XF (type:=type) h cx.floor h0 (us:=⟨_⟩) (.cons (.sl _ _ _ _ l c hρ dH dA) hr) (by rw [hts] at hty ⊢;simpa [tyOk,J4,hu,hm] using hty);refine ⟨ρ',uv,w',dB,⟨?_,?_,?_⟩,fun b' sz' off' len' z' r' blk' l' e hm' hl'=> ?_⟩
          rotate_left 3
          .injection e with e1 _;injection e1 with f1 _ _ _ _;subst f1;rw [hm] at hm';obtain rfl:=Ag hm';have hxs: ∃b2 o2 c2,x=.sl b2 o2 n c2:=by
            unfold Xp at hc;split at hc
            .grind
            .split at hc
             .obtain ⟨_,hc⟩:=N0 hc;simp_all
             .cases hc
            .cases hc
           obtain ⟨b2,o2,c2,rfl⟩:=hxs;exact hkeep.1 _ _ _ _ _ _ _ _ _ _ _ rfl hn1 hm (by grind) hl'
          .have hv:=hp.val;cases hv with
           | sl _ _ _ _ l' c' hρ' eW eT=>
            have:=Yv.sla (ρ:=ρ') st.next i.size 0 (len+n) (.un i.size) l' c' hρ' (by grind) eT
            grind
          .have hr:=hp.rel;rw [m2,n2];have hr:CF ρ' (Wv (Wv st.mem b none) st.next (some ⟨((blk.cells.drop (off*i.size)).take (len*i.size))++new,e,none⟩)) (st.next+1) w':=hr;have eX:=S9 (ρ:=ρ) (cs:=((blk.cells.drop (off*i.size)).take (len*i.size))++new) (fun v hv=>(AF.1 hv).elim (fun k=>.inl (hb0.mem v (List.mem_of_mem_drop (List.mem_of_mem_take k)))) (fun k=>.inr (Au.1 k4 v k))) e none;rw [eD,<-q2] at hr eX;exact hr.setArr ⟨i.size,len+n,_⟩ eX rfl hsz1 q1
          .rw [m2,n2];refine hp.ev.remem fun b' hb' cs ty hcs=> ?_;have hne:b'≠b:=fun e=>by grind
           show _=Yn (Wv (Wv st.mem b none) st.next _) b';rw [Zv _ _ (by omega),Zv _ _ hne,Zv _ _ (by omega),Zv _ _ hne]
         | slan=>
          have hq:=w5g (get:=fun _=>List.replicate i.size B9.undef) (off:=0) (len:=0) (N:=0) (new:=new) (fun i hi=>absurd hi (AD _)) rfl hnl;have hfe:Zf (fun _=>List.replicate i.size B9.undef) 0 0 i.size new=Zf A.get off 0 i.size new:=rfl;rw [hfe] at hq;obtain ⟨q1,q2⟩:=hq;have hn0:Nat.beq n 0=false:=by cases n with | zero=>omega | succ n=>rfl
          have hroom':Nat.ble ((n+1)*(i.bytes+1)) Jm=true:=AV (by grind);have h0:GC P cx.floor st ts.toList (.nils ::x::xr)=some (.sl st.next 0 n (.un i.size),Cr st new e):=by
           rw [hts];unfold GC
           grind [Uo]
          obtain ⟨ρ',uv,w',dB,hp,_,hkeep⟩:=XF (type:=type) h cx.floor h0 (us:=⟨_⟩) (.cons .nils hr) (by rw [hts];simp [tyOk,hu]);refine ⟨ρ',uv,w',dB,⟨?_,?_,?_⟩,fun b' sz' off' len' z' r' blk' l' e hm' hl'=> ?_⟩
          rotate_left 3
          .have hq:=h.blk b' l' blk' hl' hm';refine hq.world (CE.le_refl ρ) ?_;obtain ⟨_,g1⟩:=hq.some;rw [g1];exact hkeep.2 _ rfl _ _ g1
          .have hv:=hp.val;rw [Ah];cases hv with
           | sl _ _ _ _ l' c' hρ' eW eT=>
            have:=Yv.sla (ρ:=ρ') st.next i.size 0 n (.un i.size) l' c' hρ' (by grind) eT
            grind
          .have hr:CF ρ' (Wv st.mem st.next (some ⟨new,e,none⟩)) (st.next+1) w':=hp.rel;have hr:=hr.kill b;have hr:CF ρ' (Wv (Wv st.mem b none) st.next (some ⟨new,e,none⟩)) (st.next+1) w':=hr.remem fun b'=>by
            simp only [Vp];by_cases e1:b'=st.next
            .rw [AJ e1,AC (by omega),AJ e1]
            simp_all
           rw [show new=rows (0+n) (Zf A.get off 0 i.size new) by rw [q2];simp] at hr;rw [m2,n2];have eX:=u3e k4 e none;rw [show new=rows (0+n) (Zf A.get off 0 i.size new) by rw [q2];simp] at eX;have:=hr.setArr ⟨i.size,0+n,Zf A.get off 0 i.size new⟩ eX rfl hsz1 q1;exact this
          .rw [m2,n2];refine hp.ev.remem fun b' hb' cs ty hcs=> ?_;have hne:b'≠b:=fun e=>by grind
           show _=Yn (Wv st.mem st.next _) b';rw [Zv _ _ (by omega),Zv _ _ hne,Zv _ _ (by omega)]
      .cases ha
     .cases ha
    .cases ha
  .cases ha
 .cases ha
theorem CF.ghost {mem:CJ} {next:Nat} {w:World} (h:CF ρ mem next w) (o:Option CG):CF ρ (Wv mem next o) (next+1) w:=by
 have ne: ∀c l,ρ c=some l->c≠next:=fun c l e=>BC (h.dom c l e)
 refine ⟨fun c l e=>Bo (h.dom c l e),fun c c' m m' e e' he hs hs'=> ?_,fun c m ac e hc=> ?_,h.old,fun c m e hs=> ?_,h.real,fun c hc=> ?_,⟨fun j l e=>Bo (h.ldom.1 j l e),h.ldom.2⟩⟩
 .rw [Zv _ _ (ne _ _ e)] at hs;rw [Zv _ _ (ne _ _ e')] at hs';exact h.inj c c' m m' e e' he hs hs'
 .rw [Zv _ _ (ne _ _ e)] at hc;exact h.blk c m ac e hc
 .rw [Zv _ _ (ne _ _ e)] at hs;exact h.sep c m e hs
 .rw [Zv _ _ (by omega)];exact h.bd c (by omega)
theorem Ev.ghost {mem:CJ} {next:Nat} {w:World} (h:CF ρ mem next w) (floor:Nat) (o:Option CG):Ev ρ ρ floor mem next (Wv mem next o) (next+1) w w where
 ext:=CE.le_refl _
 new _ _:=rfl
 nxt:=B8 _
 unborn k hk _ cs ty hm:=by grind [Zv]
 frame _ _ hk _:=hk
 fresh k m hk e:=by have:=h.dom k m e;omega
 size:=Ar _
 os:=rfl
 tape:=rfl
 output:=rfl
 still _ _:=rfl
theorem v7t {mem:CJ} {next:Nat} {w:World} (h:CF ρ mem next w) {n sz:Nat} {g:Nat->zy} {ux:Value} (hx:Yv ρ (.dat n g) ux) (hg: ∀i,i<n->(g i).length =sz) (hsz:1<=sz):
  (∀w,(Builtin.lenOf ux).run P w=.ok n w)/\ ∃vs:Array Value,Vo ρ (rows n g) vs/\ ∀d,(Builtin.firstCells sz n ux).run P {w with drawn:=d}=.ok vs {w with drawn:=d}:=by
 cases hx with
 | datn=>exact ⟨fun w=>by simp [Builtin.lenOf], #[],⟨by simp [rows],fun i h1 h2=>by grind⟩,fun d=>by simp [Builtin.firstCells]⟩
 | datz=>exact ⟨fun w=>by simp [Builtin.lenOf], #[],⟨by simp [rows],fun i h1 h2=>by grind⟩,fun d=>by simp [Builtin.firstCells,loadCells,loadCellsFrom]⟩
 | dat _ _ blk base sz' cap val dH fE hv hh=>
  refine ⟨fun w=>by simp [Builtin.lenOf],?_⟩;have hl:=Yg n hg;have hdiv: ∀k,k<n*sz->k / sz<n/\k %sz<sz/\k / sz*sz+k %sz=k:=fun k hk=>
   ⟨Bd (by grind),Bx _ hsz,by rw [BE];exact BA k sz⟩
  have dW: ∀(d k:Nat),k<n*sz->({w with drawn:=d}:World).cell? ((⟨blk,base,none⟩:Addr).add k)=some (val (k / sz) (k %sz)):=by
   intro d k hk;obtain ⟨hq,hj,e4⟩:=hdiv k hk;have hs:sz'=sz:=by grind
   obtain ⟨cs,el,fz,e1,e2⟩:=hh (k / sz) (k %sz) hq (by omega);have e3:=h.old _ _ e1
   grind [Xh,World.cell?]
  refine ⟨_,⟨?_,?_⟩,fun d=>by simp only [Builtin.firstCells];exact run_loadCells _ _ _ (fun k=>val (k / sz) (k %sz)) (dW d)⟩
  .simp [hl]
  .intro k h1 h2;obtain ⟨hq,hj,e4⟩:=hdiv k (by grind);have hj':k %sz<(g (k / sz)).length :=by grind
   have hr:=Vj n hg (k / sz) (k %sz) hq hj;rw [e4,At h1,At hj'] at hr;rw [Ag hr]
   simpa using (hv (k / sz) (k %sz) hq hj').mono (Sq ρ)
theorem SV {g:Nat->zy} {p:B9->Bool} (n:Nat) (h: ∀i,i<n->(g i).all p=true):(rows n g).all p=true:=by
 grind [rows]
theorem Sd {get:Nat->zy} {sz N off len:Nat} (hl: ∀i,i<N->(get i).length =sz) (h:off+len<=N):rows len (fun k=>get (off+k))=((rows N get).drop (off*sz)).take (len*sz):=by
 have h1: ∀k,k<len->(get (off+k)).length =sz:=fun k hk=>hl _ (by omega);have hL:=Yg len h1;have hN:=Yg N hl;have hm:(off+len)*sz<=N*sz:=AB _ h;rw [AR] at hm;apply List.ext_getElem?;intro i;by_cases hi:i<len*sz
 .have hsz:0<sz:=by
   grind
  have hj:i %sz<sz:=Bx _ hsz;have hq:i / sz<len:=Bd (by grind);have e:i / sz*sz+i %sz=i:=by rw [BE];exact BA i sz
  have a1:=Vj len h1 (i / sz) (i %sz) hq hj;have a2:=Vj N hl (off+i / sz) (i %sz) (by omega) hj
  grind
 grind
theorem x8f (s:zu):rows s.length (Z1 s)=s.map fun b=>B9.int .u8 b.toNat:=by
 unfold rows Z1;rw [<-List.map_eq_flatMap];refine BJ (by simp) fun i h1 h2=> ?_;have hi:i<s.length:=by simpa using h2
 simp only [List.getElem_map,List.getElem_range];unfold Cl;rw [Bj,At hi];rfl
theorem x1u {mem:CJ} {next:Nat} {w:World} (h:CF ρ mem next w) {t u e:TypeId} {ut:TypeDesc} {i:TypeInfo} {z:Value} {zero:zy} {x:B9} {ux:Value} {n:Nat} {g:Nat->zy} {o:Bool} (hu:P.underlying t=some (.slice e)) (hut:P.underlying u=some ut) (hi:P.info? e=some i) (hz:i.zero=some z)
  (hzr:Vo ρ zero z.cells) (hzl:zero.length=i.size) (hzs:zero.all Cz=true) (hsz:1<=i.size) (hc:ZL mem i.size zero ut x=some (n,g,o)) (ho:o=true) (hx:Yv ρ x ux):
  (∀k,k<n->(g k).length =i.size)/\ ∃vs,u5w P ρ t u e i z ux n (rows n g) vs w/\ ∀v∈vs.toList,v.oneCell'=true:=by
 subst ho;unfold ZL at hc;split at hc
 .rename_i k m;split at hc
  .rename_i kt;simp only [Ad,Ae] at hc;obtain ⟨rfl,rfl,h0⟩:=hc;have hcs:Uo mem i.size zero (.int kt) (.int k m)=some (m.toNat,DC m.toNat zero):=by
    grind [Uo]
   obtain ⟨vs,hF⟩:=Jn (P:=P) (u:=u) (t:=t) h hu hut hi hz hzr hzl hcs hx (by rw [Sk,hzl]);rw [w5k] at hF;exact ⟨fun _ _=>hzl,vs,hF,Yv.cells_oneCell hF.rel (SV _ fun _ _=>hzs)⟩
  .cases hc
 .rename_i nn gg;split at hc
  .cases hc
  .rename_i hni;simp only [Ad,Ae] at hc;obtain ⟨rfl,rfl,h0⟩:=hc;have hp:=RN h0;obtain ⟨dA,vs,hvs,hfc⟩:=v7t (P:=P) h hx (fun i hi=>(hp i hi).1) hsz;have eV:(Builtin.firstCells i.size nn ux).run P w=.ok vs w:=hfc w.drawn;have hfc1:(Builtin.firstCells i.size nn ux).run P w.drew=.ok vs w.drew:=hfc (w.drawn+1);exact ⟨fun i hi=>(hp i hi).1,vs,⟨hvs,fun _ dF _ hst hno=>z3l hu hut (fun k e=>hni k e) hi (dA w) eV dF hst hno,fun hold dF dX=>z2c hu hut (fun k e=>hni k e) hi hz (dA w) hfc1 hold dF dX⟩,
    Yv.cells_oneCell hvs (SV _ fun i hi=>(hp i hi).2)⟩
 .split at hc
  .cases hc
  .rename_i hni;simp only [Ad,Ae] at hc;obtain ⟨rfl,rfl,_⟩:=hc;have hcs:Uo mem i.size zero ut .nils =some (0,[]):=by
    unfold Uo;split
    .grind
    .rfl
   obtain ⟨vs,hF⟩:=Jn (P:=P) (u:=u) (t:=t) h hu hut hi hz hzr hzl hcs hx (by simp);exact ⟨fun k hk=>absurd hk (AD _),vs,hF,Yv.cells_oneCell hF.rel rfl⟩
 .rename_i b zz off len0 cap;split at hc
  .cases hc
  .rename_i hni;split at hc
   .rename_i cells ty A hm;simp only [Ad,Ae,Ac,Ao] at hc;obtain ⟨rfl,rfl,h1,h2,dJ,h4⟩:=hc;have hp:=RN h4;have h1:=Aj h1;have h2:=Aj h2;subst h1;have nc: ∀v,Uo mem i.size zero ut v=Xp mem i.size v:=fun v=>by
     grind [Uo]
    cases hx with
    | sla _ _ _ _ _ l c hρ dH hlc=>
     obtain ⟨eD,eU,dL⟩:=(h.blk b l _ hρ hm).arr A rfl;rw [h2] at dL;simp only at eD;have hrp:=Sd dL dJ;have hlr:=Yg A.n dL;have hm2:(off+len0)*i.size<=A.n*i.size:=AB _ dJ;rw [AR] at hm2;have dA:((cells.drop (off*i.size)).take (len0*i.size)).length =len0*i.size:=by
      grind
     have hcut:cut cells (off*i.size) (len0*i.size)=some ((cells.drop (off*i.size)).take (len0*i.size)):=by simp_all [cut]
     have hcs:Uo mem i.size zero ut (.sl b (off*i.size) len0 (.ex c))=some (len0,(cells.drop (off*i.size)).take (len0*i.size)):=by have hno:(⟨cells,ty,some A⟩:CG).isObj =false:=((h.blk b l _ hρ hm).rows rfl).noObj;rw [nc];simp [Xp,hm,hcut,hno]
     obtain ⟨vs,hF⟩:=Jn (P:=P) (u:=u) (t:=t) h hu hut hi hz hzr hzl hcs (.sl b (off*i.size) len0 (.ex c) l c hρ rfl hlc) dA;rw [eD,<-hrp] at hF;exact ⟨fun k hk=>(hp k hk).1,vs,hF,Yv.cells_oneCell hF.rel (SV _ fun k hk=>(hp k hk).2)⟩
    | slan=>
     have hcs:Uo mem i.size zero ut .nils =some (0,[]):=by rw [nc];rfl
     obtain ⟨vs,hF⟩:=Jn (P:=P) (u:=u) (t:=t) h hu hut hi hz hzr hzl hcs .nils (by simp);exact ⟨fun k hk=>absurd hk (AD _),vs,hF,Yv.cells_oneCell hF.rel rfl⟩
   .cases hc
 .rename_i s;split at hc
  .obtain ⟨hs1,hc⟩:=Qi hc;have hs1:=Aj hs1;simp only [Ad,Ae] at hc;obtain ⟨rfl,rfl,_⟩:=hc;cases hx;have hvs:Vo ρ (rows s.length (Z1 s)) (s.map fun b=>Value.int .u8 b.toNat).toArray :=by rw [x8f];refine ⟨by simp,fun j h1 h2=> ?_⟩;simp only [List.getElem_map,List.getElem_toArray];exact .int _ _
   have hl: ∀w,(Builtin.lenOf (.string ⟨s.toArray⟩)).run P w=.ok s.length w:=fun w=>by simp [Builtin.lenOf,<-ByteArray.size_data]
   have hfc: ∀w,(Builtin.firstCells i.size s.length (.string ⟨s.toArray⟩)).run P w=.ok (s.map fun b=>Value.int .u8 b.toNat).toArray w:=fun w=>by simp [Builtin.firstCells,ByteArray.data_extract]
   exact ⟨fun k hk=>hs1.symm,_,⟨hvs,fun _ dF _ hst hno=>z3l hu hut (fun k e=>by cases e) hi (hl w) (hfc w) dF hst hno,fun hold dF dX=>z2c hu hut (fun k e=>by cases e) hi hz (hl w) (hfc _) hold dF dX⟩,
    Yv.cells_oneCell hvs (SV _ fun i hi=>rfl)⟩
  .cases hc
 .cases hc
def t0l (P:Program) (ρ:CE) (floor:Nat) (mem mem':CJ) (next:Nat) (sz:Nat) (e:TypeId) (N:Nat) (G:Nat->zy) (w:World) (r:World->Result Value):Prop:=
 ∃ρ' u w',r w=.ok u w'/\Yv ρ' (.sla next sz 0 N (.un sz)) u/\CF ρ' (Wv mem' next (some ⟨rows N G,e,some ⟨sz,N,G⟩⟩)) (next+1) w'/\Ev ρ ρ' floor mem next (Wv mem' next (some ⟨rows N G,e,some ⟨sz,N,G⟩⟩)) (next+1) w w'
theorem y7p {mem:CJ} {next:Nat} {w:World} (h:CF ρ mem next w) (floor:Nat) {t u e:TypeId} {type:TypeId} {ts:List TypeId} {xs:List Value} {i:TypeInfo} {z ux:Value} {n:Nat} {new:zy} {vs:Array Value} (hF:u5w P ρ t u e i z ux n new vs w)
  (dP: ∀v∈vs.toList,v.oneCell'=true) (hnl:new.length=n*i.size) (hzs:z.cells.size=i.size) (hsz:1<=i.size) {len c off b:Nat} {l:C3} {blk:CG} (hrm:(len+n+1)*(i.bytes+1)<=Jm)
  (hρ:ρ b=some l) (hm:Yn mem b=some blk) (hno:blk.isObj=false) (hfl:floor<=b) (hoff:off+len*i.size<=blk.cells.length) (hlc:len<=c) (dH:(l.n<=off+c*i.size/\off+c*i.size<=l.tot)\/c<=len)
  {G:Nat->zy} (hG:rows (len+n) G=(blk.cells.drop off).take (len*i.size)++new) (hGl: ∀k,k<len+n->(G k).length =i.size) (htyb:blk.ty=e):
  t0l P ρ floor mem (Wv mem b none) next i.size e (len+n) G w fun w=>(Builtin.append_ (t::u::ts).toArray type ((.slice (some ⟨l.blk,l.base+off,none⟩) len c)::ux::xs).toArray).run P w:=by
 have hvs:=hF.rel;have hvsz:vs.size=n*i.size:=by rw [<-hvs.1];exact hnl
 have hbk:=(h.blk b l blk hρ hm).at hno;have hln:=hbk.n;have htot:=hbk.tot;have hmul:(len+n)*i.size=len*i.size+n*i.size:=AR _ _ _;have hcut:cut blk.cells off (len*i.size)=some ((blk.cells.drop off).take (len*i.size)):=by unfold cut;simp only;rw [show Nat.beq ((blk.cells.drop off).take (len*i.size)).length (len*i.size)=true from by rw [Nat.beq_eq];simp;omega];rfl
 have hcos:Xp mem i.size (.sl b off len (.ex c))=some (len,(blk.cells.drop off).take (len*i.size)):=by simp [Xp,hm,hcut,hno]
 have holdl:((blk.cells.drop off).take (len*i.size)).length =len*i.size:=by simp;omega
 obtain ⟨_,hfo⟩:=Vf (P:=P) h hcos (.sl b off len (.ex c) l c hρ rfl hlc) holdl;obtain ⟨ovs,hovs,hof⟩:=hfo len (Ar _);rw [A3 (by omega)] at hovs;have hovz:ovs.size=len*i.size:=by rw [<-hovs.1];exact holdl
 have hof1:(Builtin.firstCells i.size len (.slice (some ⟨l.blk,l.base+off,none⟩) len c)).run P w.drew=.ok ovs w.drew:=hof (w.drawn+1);have hrn:n=0\/(n+1)*(i.bytes+1)<=1099511627776:=.inr (AG (AB _ (by omega)) hrm);have eX:(⟨rows (len+n) G,e,none⟩:CG).isObj =false:=by rw [hG];exact S9 (fun v hv=>.inl (Vo.mem (hovs.append hvs) v hv)) _ _
 by_cases dF:len+n<=c
 ·-- there is Jm
  have hcm:(len+n)*i.size<=c*i.size:=AB _ dF;obtain ⟨T,t1,t2,t3⟩: ∃T,off+len*i.size - off+new.length<=T/\off+T<=l.tot/\c*i.size<=T:=by
   rcases dH with ⟨c1,c2⟩ | c1
   .exact ⟨l.tot - off,by omega,by omega,by omega⟩
   .have:n=0:=(by omega);subst this;have:c=len:=(by omega);subst this;exact ⟨c*i.size,by omega,by omega,by omega⟩
  obtain ⟨cur,el,hw,hcsz,cZ⟩:=h.beyond2 hρ hm hno (off:=off) (m:=off+len*i.size) (T:=T) (new:=new) (vs:=vs.toList) e (by grind) (by omega) hoff t1 t2 (fun j h1 h2=>by simpa using hvs.2 j h1 (by grind)) htyb;have hst:=run_storeCells_at P l.blk (l.base+off+len*i.size) el vs.toList 0 cur w hw (by grind) dP;rw [Bg] at hst;have dB:=hF.hin (type:=type) (ts:=ts) (base:=some ⟨l.blk,l.base+off,none⟩) (len:=len) (c:=c) (xs:=xs) hrn dF (w':=w.setRow l.blk (cur.toList.take (l.base+off+len*i.size)++vs.toList++cur.toList.drop (l.base+off+len*i.size+vs.toList.length)).toArray)
   (fun a e=>by cases e;rw [Xh];exact hst) (fun e=>by cases e)
  have hdt:(blk.cells.take (off+len*i.size)).drop off=(blk.cells.drop off).take (len*i.size):=by
   grind
  rw [hdt,<-hG,<-AL] at cZ;refine ⟨_,_,_,dB,?_,cZ.setArr ⟨i.size,len+n,G⟩ eX rfl hsz hGl,?_⟩
  .have:=Yv.sla (ρ:=Vb ρ next ⟨l.blk,l.base+off,off+len*i.size - off+new.length,T⟩) next i.size 0 (len+n) (.un i.size) ⟨l.blk,l.base+off,off+len*i.size - off+new.length,T⟩ c (by simp [Vb])
    (by grind [D2]) (by omega)
   grind
  grind [Ev.ofBeyond]
 ·-- a new row
  let st:St:=⟨.leaf,mem,next,[],true⟩
  have dY:CF ρ (st.withMem (Wv mem b none)).mem (st.withMem (Wv mem b none)).next w:=h.kill b
  obtain ⟨newCap,eW,rest,dS,dB⟩:=hF.hnew (type:=type) (ts:=ts) (base:=some ⟨l.blk,l.base+off,none⟩) (len:=len) (c:=c) (xs:=xs) hof1 (by omega) (by simpa [Jm] using hrm);have hov:=hovs.append hvs;have hsum:(ovs++vs).size +rest.size=newCap*i.size:=by rw [Array.size_append,hovz,hvsz,dS,hzs,<-AR,<-AR];grind
  have hp:=W5 dY floor hov rest e e (.sla next i.size 0 (len+n) (.un i.size)) (.slice (some ⟨w.heap.size,0,none⟩) (len+n) newCap) (fun ρ' hρ'=>by
   have:=Yv.sla (ρ:=ρ') next i.size 0 (len+n) (.un i.size) _ newCap hρ' (by
    grind [D2]) eW
   grind)
  rw [<-hG] at hp;refine ⟨Vb ρ next ⟨w.heap.size,0,(rows (len+n) G).length,(ovs++vs).size +rest.size⟩,_,_,dB,hp.val,?_,?_⟩
  .exact CF.setArr hp.rel ⟨i.size,len+n,G⟩ eX rfl hsz hGl
  .refine ((Ev.ofKill h floor hρ).trans hp.ev).remem fun b' hb' cs ty hcs=> ?_;have hne: ¬b'=next:=BC hb'
   show Yn (Wv (Wv mem b none) next _) b'=Yn (Wv (Wv mem b none) next _) b';simp only [Vp,AC hne]
theorem x6e {mem:CJ} {next:Nat} {w:World} (h:CF ρ mem next w) (floor:Nat) {t u e:TypeId} {type:TypeId} {ts:List TypeId} {xs:List Value} {i:TypeInfo} {z ux:Value} {n:Nat} {new:zy} {vs:Array Value} (hF:u5w P ρ t u e i z ux n new vs w)
  (hnl:new.length=n*i.size) (hzs:z.cells.size=i.size) (hsz:1<=i.size) (hrm:(0+n+1)*(i.bytes+1)<=Jm) {G:Nat->zy} (hG:rows (0+n) G=new) (hGl: ∀k,k<0+n->(G k).length =i.size):
  t0l P ρ floor mem mem next i.size e (0+n) G w fun w=>(Builtin.append_ (t::u::ts).toArray type ((.slice none 0 0)::ux::xs).toArray).run P w:=by
 have hvs:=hF.rel;have hvsz:vs.size=n*i.size:=by rw [<-hvs.1];exact hnl
 rcases Nat.eq_zero_or_pos n with hn0 | hnpos
 .subst hn0;have dB:=hF.hin (type:=type) (ts:=ts) (base:=none) (len:=0) (c:=0) (xs:=xs) (.inl rfl) (Ar _) (w':=w) (fun a e=>by cases e) (fun _=>rfl);exact ⟨ρ,_,w,dB,.slan _ _ _ _,h.ghost _,Ev.ghost h floor _⟩
 .obtain ⟨newCap,dH,rest,dS,dB⟩:=hF.hnew (type:=type) (ts:=ts) (base:=none) (len:=0) (c:=0) (xs:=xs) (old:= #[]) (by simp [Builtin.firstCells]) (by omega) (by simpa [Jm] using hrm);have e0:(#[]:Array Value)++vs=vs:=by simp
  rw [e0] at dB;have hsum:vs.size+rest.size=newCap*i.size:=by rw [hvsz,dS,hzs,<-AR];grind
  let st:St:=⟨.leaf,mem,next,[],true⟩
  have dY:CF ρ st.mem st.next w:=h
  have hp:=W5 dY floor hvs rest e e (.sla next i.size 0 (0+n) (.un i.size)) (.slice (some ⟨w.heap.size,0,none⟩) (0+n) newCap) (fun ρ' hρ'=>by
   have:=Yv.sla (ρ:=ρ') next i.size 0 (0+n) (.un i.size) _ newCap hρ' (by
    grind [D2]) dH
   grind)
  rw [<-hG] at hp;refine ⟨Vb ρ next ⟨w.heap.size,0,(rows (0+n) G).length,vs.size+rest.size⟩,_,_,dB,hp.val,CF.setArr hp.rel ⟨i.size,0+n,G⟩ (by rw [hG];exact S9 (fun v hv=>.inl (Vo.mem hvs v hv)) _ _) rfl hsz hGl,?_⟩
  .refine hp.ev.remem fun b' hb' cs ty hcs=> ?_;have hne: ¬b'=next:=BC hb'
   show Yn (Wv mem next _) b'=Yn (Wv mem next _) b';simp only [Vp,AC hne]
theorem Ka {α β:Type} {f g:α->List β}: ∀{l:List α},(∀a,a∈l->f a=g a)->l.flatMap f=l.flatMap g
 | [],_=>rfl
 | a::l,h=>by rw [List.flatMap_cons,List.flatMap_cons,h a (by simp),Ka fun b hb=>h b (by simp [hb])]
theorem YB {get g:Nat->zy} {len n sz:Nat} (hl: ∀i,i<len->(get i).length =sz) (hg: ∀i,i<n->(g i).length =sz):
  (∀i,i<len+n->(Jq get len g i).length =sz)/\rows (len+n) (Jq get len g)=rows len get++rows n g:=by
 have h1: ∀i,i<len+n->(Jq get len g i).length =sz:=fun i hi=>by
  unfold Jq;cases e:Nat.ble len i with
  | true=>
   have:=Al e
   grind
  | false=>
   have: ¬len<=i:=fun h=>by rw [AV h] at e;cases e
   grind
 refine ⟨h1,?_⟩;unfold rows;rw [List.range_add,List.flatMap_append]
 congr 1
 .refine Ka fun i hi=> ?_;have:=AP.1 hi;unfold Jq;rw [show Nat.ble len i=false from A5.2 fun e=>by have:=Al e;omega];rfl
 .rw [List.flatMap_map];refine Ka fun i hi=> ?_;unfold Jq;rw [show Nat.ble len (len+i)=true from AV (Nat.le_add_right _ _),Ab,Nat.add_sub_cancel_left]
theorem x9r {sz:Nat}: ∀(n:Nat) (l:zy),l.length=n*sz->rows n (fun k=>(l.drop (k*sz)).take sz)=l/\ ∀k,k<n->((l.drop (k*sz)).take sz).length =sz:=by
 intro n l hl;have h1: ∀k,k<n->((l.drop (k*sz)).take sz).length =sz:=fun k hk=>by
  have:(k+1)*sz<=n*sz:=AB _ hk
  grind
 refine ⟨?_,h1⟩;have dA:=Yg n h1;apply List.ext_getElem?;intro i;by_cases hi:i<n*sz
 .have hsz:0<sz:=by
   grind
  have hj:i %sz<sz:=Bx _ hsz;have hq:i / sz<n:=Bd (by grind);have e:i / sz*sz+i %sz=i:=by rw [BE];exact BA i sz
  grind [Vj]
 grind
theorem y9m {cx:CP} {st st':St} {w:World} (h:CF ρ st.mem st.next w) {ts:Array TypeId} {type:TypeId} {xs:zy} {us:Array Value} {v:B9} (ha:HE P cx st ts.toList xs=some (v,st')) (hob:st'.ob=true) (hx:Vg (Yv ρ) xs us.toList) (hty:tyOk P st.mem ts.toList xs=true):
  ∃ρ' u w',(Builtin.append_ ts type us).run P w=.ok u w'/\Dc ρ cx.floor st st' v w ρ' u w':=by
 obtain ⟨ts⟩:=ts;obtain ⟨us⟩:=us;simp only at ha hx;unfold HE at ha;split at ha
 .rename_i t tu tts s x txs;cases hx with
  | @cons _ su _ _ hs hx=>
   cases hx with
   | @cons _ ux _ uxs hx _=>
    split at ha
    .rename_i e ut hu hut;split at ha
     .rename_i i zero hi hz;split at ha
      .rename_i b len get o1 n g o2 ht hc;obtain ⟨i2,z,hi2,hz2,hzr,_⟩:=We (ρ:=ρ) hz;obtain rfl:i=i2:=by grind
       obtain ⟨dU,ha⟩:=Qi ha;simp only [Ac] at dU;obtain ⟨⟨⟨hzl,hzsc⟩,hsz⟩,hfl⟩:=dU;have hzl:=Aj hzl;have hsz:=Al hsz;have hzs:z.cells.size=i.size:=by rw [<-hzr.1];exact hzl
       simp only [Aq,Ae] at ha;obtain ⟨st1,ho,rfl,rfl⟩:=ha;obtain ⟨_,m2,n2,o4⟩:=TO ho;obtain ⟨hb,_⟩:=o4 hob;simp only [Ac,Ao] at hb;obtain ⟨hb1,hb2,hrm⟩:=hb;have m2:st1.mem=Wv (Nh st.mem b) st.next (some ⟨rows (len+n) (Jq get len g),e,some ⟨i.size,len+n,Jq get len g⟩⟩):=m2
       have n2:st1.next=st.next+1:=n2
       obtain ⟨hgl,vs,hF,dP⟩:=x1u (P:=P) (u:=tu) (t:=t) h hu hut hi hz2 hzr hzl hzsc hsz hc hb2 hx.unN;have hnl:=Yg n hgl
       suffices t0l P ρ cx.floor st.mem (Nh st.mem b) st.next i.size e (len+n) (Jq get len g) w fun w=>(Builtin.append_ (t::tu::tts).toArray type (su::ux::uxs).toArray).run P w by obtain ⟨ρ',u,w',dB,hv,hr,hev⟩:=this;exact ⟨ρ',u,w',dB,hv,by grind,by grind⟩
       unfold RT at ht;split at ht
       .simp only [Ad,Ae] at ht;obtain ⟨rfl,rfl,rfl,_⟩:=ht;cases hs;obtain ⟨q1,q2⟩:=YB (get:=fun _=>[]) (len:=0) (fun i hi=>absurd hi (AD _)) hgl;exact x6e h cx.floor hF hnl hzs hsz hrm (by rw [q2];simp [rows]) q1
       .rename_i b0 off len0 cap;split at ht
        .rename_i blk hm;split at ht
         .rename_i old hold;obtain ⟨eL,ht⟩:=Qi ht;simp only [Ac,A8] at eL;obtain ⟨hno,eL,hoff⟩:=eL;have hoff:=Al hoff;simp only [Ad,Ae] at ht;obtain ⟨rfl,rfl,rfl,_⟩:=ht;obtain ⟨k1,k2,k3⟩:=NM hold;obtain ⟨r1,r2⟩:=x9r len0 old k2;obtain ⟨q1,q2⟩:=YB r2 hgl;cases hs with
          | sl _ _ _ _ l c hρ dH hlc=>
           have hbk:=h.blk b0 l blk hρ hm;have k4:off+len0*i.size<=blk.cells.length:=(by omega);refine y7p h cx.floor hF dP hnl hzs hsz hrm hρ hm hno (Al hfl) k4 hlc ?_ (by grind) q1 (by simpa [tyOk,J4,hu,hm] using hty);cases cap with
           | ex k=>exact .inr (by simp only [D2] at dH;rw [dH];exact Al eL)
           | un zz=>
            have:=Aj eL
            grind [D2]
         .cases ht
        .cases ht
       .rename_i b0 zz off len0 cap;split at ht
        .rename_i blk hm;split at ht
         .rename_i A hA;obtain ⟨eL,ht⟩:=Qi ht;simp only [Ad,Ae] at ht;obtain ⟨rfl,rfl,rfl,rfl⟩:=ht;simp only [Ac,Ao] at hb1;obtain ⟨hz1,hz2',dJ⟩:=hb1;obtain rfl:=Aj hz1;have hAs:=Aj hz2';cases hs with
          | sla _ _ _ _ _ l c hρ dH hlc=>
           obtain ⟨eD,eU,dL⟩:=(h.blk b0 l blk hρ hm).arr A hA;rw [hAs] at dL;have hlr:=Yg A.n dL;have hgl0: ∀k,k<len0->(A.get (off+k)).length =i.size:=fun k hk=>dL _ (by omega);obtain ⟨q1,q2⟩:=YB hgl0 hgl;have hm2:(off+len0)*i.size<=A.n*i.size:=AB _ dJ;rw [AR] at hm2;refine y7p h cx.floor hF dP hnl hzs hsz hrm hρ hm ((h.blk b0 l blk hρ hm).rows hA).noObj (Al hfl) (by grind) hlc ?_ (by rw [q2,Sd dL dJ,eD]) q1 (by simpa [tyOk,J4,hu,hm] using hty);cases cap with
           | ex k=>exact .inr (by simp only [D2] at dH;rw [dH];exact Al eL)
           | un zz=>
            have:=Aj eL
            grind [D2]
          | slan=>
           obtain ⟨q1,q2⟩:=YB (get:=fun k=>A.get (off+k)) (len:=0) (fun i hi=>absurd hi (AD _)) hgl;obtain ⟨ρ',u,w',dB,hv,hr,hev⟩:=x6e (P:=P) (type:=type) (ts:=tts) (xs:=uxs) h cx.floor hF hnl hzs hsz hrm (G:=Jq (fun k=>A.get (off+k)) 0 g) (by rw [q2];simp [rows]) q1;have hbn:b0<st.next:=by
            rcases A7 b0 st.next with g | g
            .exact g
            .rw [h.bd b0 g] at hm;cases hm
           refine ⟨ρ',u,w',dB,hv,?_,?_⟩
           .refine (hr.kill b0).remem fun b'=> ?_;simp only [Nh,Vp];by_cases e1:b'=st.next
            .rw [AJ e1,AC (by omega),AJ e1]
            simp_all
           .refine hev.remem fun b' hb' cs ty hcs=> ?_;have hne:b'≠b0:=fun e=>by grind
            show Yn (Wv (Wv st.mem b0 none) st.next _) b'=Yn (Wv st.mem st.next _) b';rw [Zv _ _ (by omega),Zv _ _ hne,Zv _ _ (by omega)]
         .cases ht
        .cases ht
       .cases ht
      .cases ha
     .cases ha
    .cases ha
 .cases ha
theorem w4h {st st':St} {w:World} (h:CF ρ st.mem st.next w) (floor:Nat) {ts:Array TypeId} {type:TypeId} {xs:zy} {us:Array Value} {v:B9} (ha:N9 P floor st ts.toList xs=some (v,st')) (hx:Vg (Yv ρ) xs us.toList):
  ∃ρ' u w',(Builtin.copy_ ts type us).run P w=.ok u w'/\Dc ρ floor st st' v w ρ' u w'/\st'.env=st.env/\st'.ob=st.ob:=by
 obtain ⟨ts⟩:=ts;obtain ⟨us⟩:=us;simp only at ha hx;unfold N9 at ha;split at ha
 .rename_i t _ d x _;cases hx with
  | @cons _ ud _ _ hd hx=>
   cases hx with
   | @cons _ ux _ uxs hx _=>
    split at ha
    .rename_i e hu;split at ha
     .rename_i i hi;split at ha
      .rename_i m src hcs;cases hc:(Nat.beq src.length (m*i.size)&&src.all Cz) with
       | false=>grind
       | true=>
        rw [hc,Ab] at ha;simp only [Ac] at hc;have hsl:=Aj hc.1;have hsc:=hc.2;obtain ⟨dA,dQ⟩:=Vf (P:=P) h hcs hx hsl;split at ha
        .cases hd;simp only [Ad,Ae] at ha;obtain ⟨rfl,rfl⟩:=ha;obtain ⟨vs,hvs,hfc⟩:=dQ 0 (Ay _);have eV:(Builtin.firstCells i.size 0 ux).run P w=.ok vs w:=hfc w.drawn;refine ⟨ρ,_,w,?_,⟨.int _ _,h,Ev.refl _ _ _ _ _ h.dom⟩,rfl,rfl⟩;simp_all [Builtin.copy_,run_underlying,Yw,goInt]
        .rename_i dn dg;obtain ⟨hdn,ha'⟩:=Qi ha;clear ha;obtain rfl:=Aj hdn;simp only [Ad,Ae] at ha';obtain ⟨rfl,rfl⟩:=ha';obtain ⟨vs,hvs,hfc⟩:=dQ 0 (Ay _);have eV:(Builtin.firstCells i.size 0 ux).run P w=.ok vs w:=hfc w.drawn;have hv0:vs= #[]:=by
          have:vs.size=0:=by rw [<-hvs.1];simp
          grind
         subst hv0;cases hd with
         | datn=>refine ⟨ρ,_,w,?_,⟨.int _ _,h,Ev.refl _ _ _ _ _ h.dom⟩,rfl,rfl⟩;simp_all [Builtin.copy_,run_underlying,Yw,goInt]
         | datz=>refine ⟨ρ,_,w,?_,⟨.int _ _,h,Ev.refl _ _ _ _ _ h.dom⟩,rfl,rfl⟩;simp_all [Builtin.copy_,run_underlying,Yw,goInt,storeCells]
         | dat=>refine ⟨ρ,_,w,?_,⟨.int _ _,h,Ev.refl _ _ _ _ _ h.dom⟩,rfl,rfl⟩;simp_all [Builtin.copy_,run_underlying,Yw,goInt,storeCells]
        .rename_i b off len cap;split at ha
         .rename_i blk hm;dsimp only at ha;cases hf:(!blk.isObj&&(Nat.ble floor b&&Nat.ble (off+(Nat.min m len)*i.size) blk.cells.length)) with
          | false=>grind
          | true=>
           rw [hf,Ab] at ha;simp only [Ac,A8] at hf;obtain ⟨hno,hf⟩:=hf;have hfl:=Al hf.1;have dJ:=Al hf.2;simp only [Ad,Ae] at ha;obtain ⟨rfl,rfl⟩:=ha;cases hd with
           | sl _ _ _ _ l c hρ dH hlc=>
            have hmin:Nat.min m len<=m:=Nat.min_le_left _ _;have hmul:Nat.min m len*i.size<=m*i.size:=AB _ hmin;obtain ⟨vs,hvs,hfc⟩:=dQ (Nat.min m len) hmin;have eV:(Builtin.firstCells i.size (Nat.min m len) ux).run P w=.ok vs w:=hfc w.drawn;have dP:=Yv.cells_oneCell hvs (Au.2 fun a ha=>Au.1 hsc a (List.mem_of_mem_take ha));have hvl:(src.take (Nat.min m len*i.size)).length =Nat.min m len*i.size:=(by grind);obtain ⟨cur,el,hw,hcsz,cZ⟩:=h.write hρ hm (off:=off) (cs:=src.take (Nat.min m len*i.size)) (vs:=vs.toList) hno (by simpa using hvs.1.symm) (by grind) (fun j h1 h2=>by simpa using hvs.2 j h1 (by grind));have hst:=run_storeCells_at P l.blk (l.base+off) el vs.toList 0 cur w hw (by grind) dP;rw [Bg] at hst;refine ⟨ρ,.int .i64 (Nat.min m len),w.setRow l.blk (cur.toList.take (l.base+off)++vs.toList++cur.toList.drop (l.base+off+vs.toList.length)).toArray,?_,⟨.int _ _,?_,Ev.ofWrite h hρ hfl _ _⟩,rfl,rfl⟩;all_goals simp_all [Builtin.copy_,run_underlying,Yw,goInt,St.withMem]
         .cases ha
        .cases ha
      .cases ha
     .cases ha
    .cases ha
 .cases ha
theorem v7s {mem:CJ} {next:Nat} {w:World} (h:CF ρ mem next w) {n sz:Nat} {g:Nat->zy} {ux:Value} (hx:Yv ρ (.dat n g) ux) (hg: ∀i,i<n->(g i).length =sz) (hsz:1<=sz) {m:Nat} (hm:m<=n):
  (∀w,(Builtin.lenOf ux).run P w=.ok n w)/\ ∃vs:Array Value,Vo ρ (rows m g) vs/\ ∀d,(Builtin.firstCells sz m ux).run P {w with drawn:=d}=.ok vs {w with drawn:=d}:=by
 cases hx with
 | datn=>
  obtain rfl:m=0:=by omega
  exact ⟨fun w=>by simp [Builtin.lenOf], #[],⟨by simp [rows],fun i h1 h2=>by grind⟩,fun d=>by simp [Builtin.firstCells]⟩
 | datz=>
  obtain rfl:m=0:=by omega
  exact ⟨fun w=>by simp [Builtin.lenOf], #[],⟨by simp [rows],fun i h1 h2=>by grind⟩,fun d=>by simp [Builtin.firstCells,loadCells,loadCellsFrom]⟩
 | dat _ _ blk base sz' cap val dH fE hv hh=>
  refine ⟨fun w=>by simp [Builtin.lenOf],?_⟩;have hg': ∀i,i<m->(g i).length =sz:=fun i hi=>hg i (by omega);have hl:=Yg m hg';have hdiv: ∀k,k<m*sz->k / sz<m/\k %sz<sz/\k / sz*sz+k %sz=k:=fun k hk=>
   ⟨Bd (by grind),Bx _ hsz,by rw [BE];exact BA k sz⟩
  have dW: ∀(d k:Nat),k<m*sz->({w with drawn:=d}:World).cell? ((⟨blk,base,none⟩:Addr).add k)=some (val (k / sz) (k %sz)):=by
   intro d k hk;obtain ⟨hq,hj,e4⟩:=hdiv k hk;have hs:sz'=sz:=by grind
   obtain ⟨cs,el,fz,e1,e2⟩:=hh (k / sz) (k %sz) (by omega) (by omega);have e3:=h.old _ _ e1
   grind [Xh,World.cell?]
  refine ⟨_,⟨?_,?_⟩,fun d=>by simp only [Builtin.firstCells];exact run_loadCells _ _ _ (fun k=>val (k / sz) (k %sz)) (dW d)⟩
  .simp [hl]
  .intro k h1 h2;obtain ⟨hq,hj,e4⟩:=hdiv k (by grind);have hj':k %sz<(g (k / sz)).length :=by grind
   have hr:=Vj m hg' (k / sz) (k %sz) hq hj;rw [e4,At h1,At hj'] at hr;rw [Ag hr]
   simpa using (hv (k / sz) (k %sz) (by omega) hj').mono (Sq ρ)
theorem x4x {g:Nat->zy} {sz n m:Nat} (hg: ∀i,i<n->(g i).length =sz) (hm:m<=n):(rows n g).take (m*sz)=rows m g:=by
 have:=Sd (off:=0) (len:=m) hg (by omega)
 grind
theorem v4p {get g:Nat->zy} {sz N off n:Nat} (hl: ∀i,i<N->(get i).length =sz) (hg: ∀i,i<n->(g i).length =sz) (h:off+n<=N):
  (∀i,i<N->(Uh get off n g i).length =sz)/\rows N (Uh get off n g)=(rows N get).take (off*sz)++rows n g++(rows N get).drop (off*sz+n*sz):=by
 have h1: ∀i,i<N->(Uh get off n g i).length =sz:=fun i hi=>by
  unfold Uh;cases e:(Nat.ble off i&&Nat.ble (i+1) (off+n)) with
  | true=>
   simp only [Ac] at e;have e1:=Al e.1;have e2:=Al e.2
   grind
  | false=>exact hl _ hi
 refine ⟨h1,?_⟩;obtain ⟨r,rfl⟩: ∃r,N=off+(n+r):=⟨N - off - n,by omega⟩
 have e2:off*sz+n*sz=(off+n)*sz:=(AR _ _ _).symm;rw [x4x hl (by omega),e2];have e3:(rows (off+(n+r)) get).drop ((off+n)*sz)=rows r fun k=>get (off+n+k):=by
  rw [Sd (off:=off+n) (len:=r) hl (by omega)];rw [A3];have:=Yg _ hl
  grind
 rw [e3];unfold rows;rw [List.range_add,List.range_add,List.flatMap_append,BF,List.flatMap_append,<-AH]
 congr 1
 .congr 1
  .refine Ka fun i hi=> ?_;have:=AP.1 hi;unfold Uh;rw [show Nat.ble off i=false from A5.2 fun e=>by have:=Al e;omega];rfl
  .rw [List.flatMap_map];refine Ka fun i hi=> ?_;have:=AP.1 hi;unfold Uh;rw [AV (show off<=off+i by omega),AV (show off+i+1<=off+n by omega),Nat.add_sub_cancel_left];rfl
 .rw [B4,List.flatMap_map];refine Ka fun i hi=> ?_;unfold Uh;show (bif Nat.ble off (off+(n+i))&&Nat.ble (off+(n+i)+1) (off+n) then _ else _)=_;rw [show Nat.ble (off+(n+i)+1) (off+n)=false from A5.2 fun e=>by have:=Al e;omega,A2,Aa]
  grind
theorem x3q {mem:CJ} {next:Nat} {w:World} (h:CF ρ mem next w) {sz:Nat} (hsz:1<=sz) {x:B9} {ux:Value} {m:Nat} {g:Nat->zy} {o:Bool} (hc:w3u mem sz x=some (m,g,o)) (ho:o=true) (hx:Yv ρ x ux):
  (∀k,k<m->(g k).length =sz/\(g k).all Cz=true)/\ ∀n,n<=m->(∀w,(Builtin.lenOf ux).run P w=.ok m w)/\ ∃vs:Array Value,Vo ρ (rows n g) vs/\ ∀d,(Builtin.firstCells sz n ux).run P {w with drawn:=d}=.ok vs {w with drawn:=d}:=by
 subst ho;have part: ∀(b z off len c:Nat) (l:C3) (blk:CG) (A:Da),ρ b=some l->Yn mem b=some blk->blk.arr=some A->len<=c->(Nat.beq z sz&&(Nat.beq A.sz sz&&(decide (off+len<=A.n)&&ES sz len fun k=>A.get (off+k))))=true->
   (∀k,k<len->(A.get (off+k)).length =sz/\(A.get (off+k)).all Cz=true)/\ ∀n,n<=len->(∀w,(Builtin.lenOf (.slice (some ⟨l.blk,l.base+off*z,none⟩) len c)).run P w=.ok len w)/\ ∃vs:Array Value,Vo ρ (rows n fun k=>A.get (off+k)) vs/\ ∀d,(Builtin.firstCells sz n (.slice (some ⟨l.blk,l.base+off*z,none⟩) len c)).run P {w with drawn:=d}=.ok vs {w with drawn:=d}:=by
  intro b z off len c l blk A hρ hm hA dA ho;simp only [Ac,Ao] at ho;obtain ⟨k1,k2,k3,k4⟩:=ho;obtain rfl:=Aj k1;have k2:=Aj k2;have k4:=RN k4;refine ⟨k4,fun n hn=> ?_⟩;have hno:=((h.blk b l blk hρ hm).rows hA).noObj;obtain ⟨eD,eU,dL⟩:=(h.blk b l blk hρ hm).arr A hA;rw [k2] at dL;have hlr:=Yg A.n dL;have hm2:(off+len)*z<=A.n*z:=AB _ k3;rw [AR] at hm2;have hpl:=Sd dL k3;have hL:(rows len fun k=>A.get (off+k)).length =len*z:=Yg len fun i hi=>(k4 i hi).1;have hcs:Xp mem z (.sl b (off*z) len (.ex c))=some (len,rows len fun k=>A.get (off+k)):=by simp_all [Xp,cut]
  obtain ⟨q1,q2⟩:=Vf (P:=P) h hcs (.sl b (off*z) len (.ex c) l c hρ rfl dA) hL
  grind [x4x]
 have none0: ∀(g:Nat->zy) (n:Nat) (p:Option Addr) (c:Nat),n<=0->(∀w,(Builtin.lenOf (.slice p 0 c)).run P w=.ok 0 w)/\ ∃vs:Array Value,Vo ρ (rows n g) vs/\ ∀d,(Builtin.firstCells sz n (.slice p 0 c)).run P {w with drawn:=d}=.ok vs {w with drawn:=d}:=by
  intro g n p c hn;obtain rfl:n=0:=by omega
  cases p with
  | none=>exact ⟨fun w=>by simp [Builtin.lenOf], #[],⟨by simp [rows],fun i h1 h2=>by grind⟩,fun d=>by simp [Builtin.firstCells]⟩
  | some a=>refine ⟨fun w=>by simp [Builtin.lenOf],_,⟨?_,fun i h1 h2=>by simp [rows] at h1⟩,fun d=>by simp only [Builtin.firstCells];exact run_loadCells _ _ _ (fun _=>undef) fun k hk=>by grind⟩;simp [rows]
 unfold w3u at hc;split at hc
 .simp only [Ad,Ae] at hc;obtain ⟨rfl,rfl,_⟩:=hc;cases hx;exact ⟨fun k hk=>absurd hk (AD _),fun n hn=>none0 _ n none 0 hn⟩
 .rename_i n' g';simp only [Ad,Ae] at hc;obtain ⟨rfl,rfl,h0⟩:=hc;have hp:=RN h0;exact ⟨hp,fun n hn=>v7s (P:=P) h hx (fun i hi=>(hp i hi).1) hsz hn⟩
 .split at hc
  .rename_i blk hm;split at hc
   .rename_i A hA;simp only [Ad,Ae] at hc;obtain ⟨rfl,rfl,h0⟩:=hc;cases hx with
    | sla _ _ _ _ _ l c hρ dH dA=>grind
    | slan=>exact ⟨fun k hk=>absurd hk (AD _),fun n hn=>none0 _ n none 0 hn⟩
   .cases hc
  .cases hc
 .split at hc
  .rename_i blk hm;split at hc
   .rename_i A hA;simp only [Ad,Ae] at hc;obtain ⟨rfl,rfl,h0⟩:=hc;cases hx with
    | slv _ _ _ _ l c hρ dA=>grind
    | slve=>exact ⟨fun k hk=>absurd hk (AD _),fun n hn=>none0 _ n _ _ hn⟩
    | slvn=>exact ⟨fun k hk=>absurd hk (AD _),fun n hn=>none0 _ n none 0 hn⟩
   .cases hc
  .cases hc
 .cases hc
theorem CF.reblk {mem:CJ} {next:Nat} {w:World} (h:CF ρ mem next w) {b:Nat} {blk blk':CG} (hm:Yn mem b=some blk) (hb: ∀l,ρ b=some l->Wn ρ w blk l->Wn ρ w blk' l):CF ρ (Wv mem b (some blk')) next w:=by
 have iff: ∀c,(Yn (Wv mem b (some blk')) c).isSome =true->(Yn mem c).isSome =true:=fun c hc=>by
  grind [Vp]
 have hlt:b<next:=by
  rcases A7 b next with q | q
  .exact q
  .rw [h.bd b q] at hm;cases hm
 refine ⟨h.dom,fun c c' m m' e e' he hs hs'=>h.inj c c' m m' e e' he (iff c hs) (iff c' hs'),fun c m ac e hc=> ?_,h.old,fun c m e hs=>h.sep c m e (iff c hs),h.real,fun c hc=> ?_,h.ldom⟩
 .grind [Vp,blk]
 .rw [Zv _ _ (by omega)];exact h.bd c hc
theorem Ev.put {mem:CJ} {next:Nat} {w:World} (h:CF ρ mem next w) (floor:Nat) {b:Nat} {blk:CG} {A:Da} (hm:Yn mem b=some blk) (hA:blk.arr=some A) (o:Option CG):Ev ρ ρ floor mem next (Wv mem b o) next w w where
 ext:=CE.le_refl _
 new _ _:=rfl
 nxt:=Ar _
 unborn k _ e cs ty hk:=by
  grind [Zv]
 frame _ _ hk _:=hk
 fresh k m hk e:=by have:=h.dom k m e;omega
 size:=Ar _
 os:=rfl
 tape:=rfl
 output:=rfl
 still _ _:=rfl
theorem y3l {cx:CP} {st st':St} {w:World} (h:CF ρ st.mem st.next w) {ts:Array TypeId} {type:TypeId} {us:Array Value} {b sz off len:Nat} {d x:B9} {xs:zy} {v:B9} (ha:JL P cx st ts.toList b sz off len x=some (v,st')) (hob:st'.ob=true) (hx:Vg (Yv ρ) (d::x::xs) us.toList)
  (hd: ∀u,Yv ρ d u->(∃l c,ρ b=some l/\len<=c/\u=.slice (some ⟨l.blk,l.base+off*sz,none⟩) len c)\/(len=0/\ ∃p c,u=.slice p 0 c)):
  ∃ρ' u w',(Builtin.copy_ ts type us).run P w=.ok u w'/\Dc ρ cx.floor st st' v w ρ' u w':=by
 obtain ⟨ts⟩:=ts;obtain ⟨us⟩:=us;simp only at ha hx;unfold JL at ha;split at ha
 .rename_i t _;cases hx with
  | @cons _ ud _ _ hd0 hx=>
   cases hx with
   | @cons _ ux _ uxs hx _=>
    split at ha
    .rename_i e hu;split at ha
     .rename_i i blk hi hm;split at ha
      .rename_i A m g o hA hcs;obtain ⟨dU,ha⟩:=Qi ha;simp only [Ac] at dU;have hfl:=Al dU.1;have hsz:=Al dU.2;simp only [Aq,Ae] at ha;obtain ⟨st1,ho,rfl,rfl⟩:=ha;obtain ⟨_,m2,n2,o4⟩:=TO ho;obtain ⟨hb,_⟩:=o4 hob;simp only [Ac,Ao] at hb;obtain ⟨k1,k2,k3,k4⟩:=hb;obtain rfl:=Aj k1;have k2:=Aj k2;have m2:st1.mem=Wv st.mem b (some ⟨rows A.n (Uh A.get off (Nat.min m len) g),blk.ty,some ⟨A.sz,A.n,Uh A.get off (Nat.min m len) g⟩⟩):=m2;have n2:st1.next=st.next:=n2
       obtain ⟨hg,dQ⟩:=x3q (P:=P) h hsz hcs k4 hx;have hmin:Nat.min m len<=m:=Nat.min_le_left _ _;have hmin2:Nat.min m len<=len:=Nat.min_le_right _ _;obtain ⟨dA,vs,hvs,hfc⟩:=dQ (Nat.min m len) hmin;have eV:(Builtin.firstCells i.size (Nat.min m len) ux).run P w=.ok vs w:=hfc w.drawn;have hgl: ∀k,k<Nat.min m len->(g k).length =i.size:=fun k hk=>(hg k (by omega)).1;have hrl:=Yg (Nat.min m len) hgl;have dP:=Yv.cells_oneCell hvs (SV _ fun k hk=>(hg k (by omega)).2);have hbn:b<st.next:=by
        rcases A7 b st.next with q | q
        .exact q
        .rw [h.bd b q] at hm;cases hm
       have nothing:Nat.min m len=0->CF ρ st1.mem st1.next w/\Ev ρ ρ cx.floor st.mem st.next st1.mem st1.next w w:=fun e0=>by
        rw [m2,n2,e0];have same: ∀k,Uh A.get off 0 g k=A.get k:=fun k=>by
         unfold Uh;cases e:(Nat.ble off k&&Nat.ble (k+1) (off+0)) with
         | true=>simp only [Ac] at e;have e1:=Al e.1;have e2:=Al e.2;omega
         | false=>rfl
        have same:Uh A.get off 0 g=A.get:=funext same;rw [same];refine ⟨?_,Ev.put h cx.floor hm hA _⟩;refine h.reblk hm fun l hρ hbk=> ?_;have hbk:=hbk.rows hA;obtain ⟨eD,eU,dL⟩:=hbk.arr A hA;refine .plain ⟨by have:=hbk.typ;grind,by rw [hbk.n,eD],hbk.tot,fun B hB=> ?_,?_⟩
        .obtain rfl:=Ag hB;exact ⟨rfl,eU,dL⟩
        .have:=hbk.cells
         grind
       rcases hd ud hd0 with ⟨l,c,hρ,hlc,rfl⟩ | ⟨rfl,p,c,rfl⟩
       .have hb0:=(h.blk b l blk hρ hm).rows hA;have hno:=hb0.noObj;obtain ⟨eD,eU,dL⟩:=hb0.arr A hA;rw [k2] at dL;have hlr:=Yg A.n dL;have hfitN:off+Nat.min m len<=A.n:=(by omega);obtain ⟨c1,c2⟩:=v4p dL hgl hfitN;have hm3:(off+Nat.min m len)*i.size<=A.n*i.size:=AB _ hfitN;rw [AR] at hm3;obtain ⟨cur,el,hw,hcsz,cZ⟩:=h.write hρ hm (off:=off*i.size) (cs:=rows (Nat.min m len) g) (vs:=vs.toList) hno (by simpa using hvs.1.symm) (by grind) (fun j h1 h2=>by simpa using hvs.2 j h1 (by grind));have eX:=hb0.splice (off:=off*i.size) (cs:=rows (Nat.min m len) g) (vs:=vs.toList) (by simpa using hvs.1.symm) (by grind) (fun j h1 h2=>by simpa using hvs.2 j h1 (by grind)) blk.ty none;have hst:=run_storeCells_at P l.blk (l.base+off*i.size) el vs.toList 0 cur w hw (by grind) dP;rw [Bg] at hst;rw [hrl,eD,<-c2] at cZ eX;refine ⟨ρ,.int .i64 (Nat.min m len:Nat),w.setRow l.blk (cur.toList.take (l.base+off*i.size)++vs.toList++cur.toList.drop (l.base+off*i.size+vs.toList.length)).toArray,?_,.int _ _,?_,?_⟩
        .have hl2:=dA w;simp [Builtin.copy_,run_underlying hu,dA,Yw hi,eV,goInt,hst,-Array.length_toList,-List.append_assoc]
        .rw [m2,n2];have:=cZ.setArr ⟨A.sz,A.n,.flat (Uh A.get off (Nat.min m len) g)⟩ eX rfl eU (by rw [k2];exact c1);exact this
        grind [Ev.ofWrite]
       .have e0:Nat.min m 0=0:=Nat.min_zero m;obtain ⟨n1,n3⟩:=nothing e0;refine ⟨ρ,.int .i64 (Nat.min m 0:Nat),w,?_,.int _ _,n1,n3⟩;rw [e0] at eV hvs;have hv0:vs= #[]:=by
         have:vs.size=0:=by rw [<-hvs.1];simp [rows]
         grind
        subst hv0;cases p with
        | none=>simp [Builtin.copy_,run_underlying hu,dA,Yw hi,eV,goInt]
        | some a=>simp [Builtin.copy_,run_underlying hu,dA,Yw hi,eV,goInt,storeCells]
      .cases ha
     .cases ha
    .cases ha
 .cases ha
theorem x7e {st st':St} {w:World} (h:CF ρ st.mem st.next w) (floor:Nat) {ts:Array TypeId} {type:TypeId} {xs:zy} {us:Array Value} {v:B9} (ha:NV P floor st ts.toList xs=some (v,st')) (hx:Vg (Yv ρ) xs us.toList):
  ∃ρ' u w',(Builtin.clear_ ts type us).run P w=.ok u w'/\Dc ρ floor st st' v w ρ' u w'/\st'.env=st.env/\st'.ob=st.ob:=by
 obtain ⟨ts⟩:=ts;obtain ⟨us⟩:=us;simp only at ha hx;unfold NV at ha;have unit:Yv ρ (.tup []) (.tuple #[]):=.tup [] #[] rfl fun i h1 _=>by simp at h1
 split at ha
 .rename_i t _ d _;cases hx with
  | @cons _ ud _ _ hd _=>
   split at ha
   .rename_i e hu;split at ha
    .rename_i i zero hi hz;obtain ⟨i2,z,hi2,_,hzr,hzv⟩:=We (ρ:=ρ) hz;split at ha
     .cases hd;simp only [Ad,Ae] at ha;obtain ⟨rfl,rfl⟩:=ha;exact ⟨ρ,.tuple #[],w,by simp [Builtin.clear_,run_underlying hu],⟨unit,h,Ev.refl _ _ _ _ _ h.dom⟩,rfl,rfl⟩
     .rename_i b off len cap;cases hd with
      | sl _ _ _ _ l c hρ dH hlc=>
       rcases (by cases hl0:Nat.beq len 0 with
         | true=>rw [hl0] at ha;exact .inl ⟨rfl,ha⟩
         | false=>rw [hl0] at ha;exact .inr ⟨rfl,ha⟩:(Nat.beq len 0=true/\_)\/(Nat.beq len 0=false/\_)) with ⟨hl0,ha⟩ | ⟨hl0,ha⟩
       .have hl0:=Aj hl0;subst hl0;simp only [Ab,Ad,Ae] at ha;obtain ⟨rfl,rfl⟩:=ha;exact ⟨ρ,.tuple #[],w,by simp [Builtin.clear_,run_underlying hu],⟨unit,h,Ev.refl _ _ _ _ _ h.dom⟩,rfl,rfl⟩
       .obtain ⟨hc,ha⟩:=Qi ha;simp only [Ac] at hc;obtain ⟨⟨hzl,hzs⟩,hfl⟩:=hc;have hzl:=Aj hzl;have hfl:=Al hfl;split at ha
        .rename_i blk hm;obtain ⟨dJ,ha⟩:=Qi ha;simp only [Ac,A8] at dJ;obtain ⟨hno,dJ⟩:=dJ;have dJ:=Al dJ;simp only [Ad,Ae] at ha;obtain ⟨rfl,rfl⟩:=ha;have hrl:(DC len zero).length =len*i.size:=(by rw [Sk,hzl]);have eE:Vo ρ (DC len zero) (Builtin.zeroCells z.cells len):=Rh hzr len (len*z.cells.size) (by rw [hzr.1]);have dP: ∀v∈(Builtin.zeroCells z.cells len).toList,v.oneCell'=true:=Yv.cells_oneCell eE (by
          grind [DC])
         obtain ⟨cur,el,hw,hcsz,cZ⟩:=h.write hρ hm (off:=off) (cs:=DC len zero) (vs:=(Builtin.zeroCells z.cells len).toList) hno (by simpa using eE.1.symm) (by grind) (fun j h1 h2=>by simpa using eE.2 j h1 (by grind));have hst:=run_storeCells_at P l.blk (l.base+off) el (Builtin.zeroCells z.cells len).toList 0 cur w hw (by grind) dP;rw [Bg] at hst;have hne:len≠0:=fun e=>by simp_all
         refine ⟨ρ,.tuple #[],w.setRow l.blk (cur.toList.take (l.base+off)++(Builtin.zeroCells z.cells len).toList ++cur.toList.drop (l.base+off+(Builtin.zeroCells z.cells len).toList.length)).toArray,?_,⟨unit,?_,Ev.ofWrite h hρ hfl _ _⟩,rfl,rfl⟩;all_goals simp_all [Builtin.clear_,run_underlying,St.withMem]
        .cases ha
     .cases ha
    .cases ha
   .cases ha
 .cases ha
end
section
variable {P:Program} {ρ:CE}
structure Xd (floor:Nat) (st st':St):Prop where
 nxt:st.next<=st'.next
 bd:(∀b,st.next<=b->Yn st.mem b=none)-> ∀b,st'.next<=b->Yn st'.mem b=none
 low:floor<=st.next-> ∀b,b<floor->Yn st'.mem b=Yn st.mem b
 ob:st'.ob=true->st.ob=true
theorem Xd.refl (floor:Nat) (st:St):Xd floor st st:=⟨Ar _,fun h=>h,fun _ _ _=>rfl,fun h=>h⟩
theorem Xd.trans {floor:Nat} {a b c:St} (h:Xd floor a b) (k:Xd floor b c):Xd floor a c:=
 ⟨AG h.nxt k.nxt,fun x=>k.bd (h.bd x),fun x d hd=>(k.low (AG x h.nxt) d hd).trans (h.low x d hd),fun x=>h.ob (k.ob x)⟩
theorem Xd.write {floor:Nat} (st:St) {b:Nat} {ab:CG} (o:Option CG) (hf:floor<=b) (hm:Yn st.mem b=some ab):Xd floor st (st.withMem (Wv st.mem b o)) where
 nxt:=Ar _
 bd h k hk:=by
  have hne:k≠b:=fun e=>by rw [e,] at hk;rw [h b hk] at hm;cases hm
  show Yn (Wv st.mem b o) k=none;rw [Zv _ _ hne];exact h k hk
 low _ k hk:=Zv _ _ (by omega)
 ob h:=h
theorem Xd.new {floor:Nat} (st:St) (cs:zy) (ty:TypeId):Xd floor st (Cr st cs ty) where
 nxt:=B8 _
 bd h k hk:=by
  have hk':st.next+1<=k:=hk
  show Yn (Wv st.mem st.next _) k=none
  grind [Zv]
 low hf k hk:=Zv _ _ (by omega)
 ob h:=h
def Er (R:CL):Prop:= ∀cx todo st st',R cx todo st=some st'->Xd cx.floor st st'
theorem Wu {cx:CP} {st st':St} {b:Bool} (h:st.owe cx b=some st'):st'.env=st.env/\st'.mem=st.mem/\st'.next=st.next/\(st'.ob=true->b=true/\st.ob=true):=by
 obtain ⟨env,mem,next,orc,ob⟩:=st
 grind [St.owe]
theorem Sg {st st':St} {b e:Bool} (h:st.test b=(e,st')):st'.env=st.env/\st'.mem=st.mem/\st'.next=st.next/\(st'.ob=true->e=b/\st.ob=true):=by
 obtain ⟨env,mem,next,orc,ob⟩:=st;cases orc with
 | nil=>
  grind [St.test]
 | cons c r=>
  grind [St.test]
theorem Wt {cx:CP} {st st':St} {dst:Option Tmp} {v:B9} (h:st.put cx dst v=some st'):st'.mem=st.mem/\st'.next=st.next/\st'.ob=st.ob/\
  ((dst=none/\st'.env=st.env)\/ ∃d,dst=some d/\d<cx.n/\st'.env=T.set .undef st.env d v):=by
 obtain ⟨env,mem,next,orc,ob⟩:=st;cases dst with
 | none=>
  grind [St.put]
 | some d=>
  simp only [St.put] at h;cases hb:Nat.ble (d+1) cx.n with
  | false=>grind
  | true=>rw [hb,Ab] at h;obtain rfl:=Ag h;exact ⟨rfl,rfl,rfl,.inr ⟨d,rfl,Al hb,rfl⟩⟩
theorem Xd.same {floor:Nat} {st st':St} (hm:st'.mem=st.mem) (hn:st'.next=st.next) (ho:st'.ob=true->st.ob=true):Xd floor st st':=
 ⟨by grind,fun h b hb=>by grind,fun _ b _=>by rw [hm],ho⟩
theorem Zo {α:Type} {c:Bool} {x:Option α} {y:α} (h:(bif c then x else none)=some y):c=true/\x=some y:=by grind
theorem Uw {α:Type} {c:Bool} {x z:Option α} {y:α} (h:(bif c then x else z)=some y):(c=true/\x=some y)\/(c=false/\z=some y):=by grind
theorem v2h {floor:Nat} {st st':St} {t:TypeId} {x v:B9} (h:NX P floor st t x v=some st'):Xd floor st st'/\st'.env=st.env:=by
 unfold NX at h;split at h
 .obtain ⟨hc,h⟩:=Zo h;simp only [Ac] at hc;split at h
  .rename_i blk hm;obtain ⟨_,h⟩:=Zo h;obtain rfl:=Ag h;exact ⟨Xd.write st _ (Al hc.1.1.1) hm,rfl⟩
  .cases h
 .cases h
theorem w4e {cx:CP} {st st':St} {t:TypeId} {x v:B9} (h:Mg P cx st t x v=some st'):Xd cx.floor st st'/\st'.env=st.env:=by
 unfold Mg at h;split at h
 .obtain ⟨hc,h⟩:=Zo h;simp only [Ac] at hc;split at h
  .rename_i blk hm;split at h
   .split at h
    .rename_i rw1 st1 eN;obtain ⟨s1,s2,s3,s4⟩:=z7l eN;obtain ⟨o1,o2,o3,o4⟩:=Wu h;have a1:Xd cx.floor st st1:=Xd.same s2 s3 fun x=>(s4 x).2;exact ⟨(a1.trans (Xd.write st1 _ (Al hc.1.1.1.1) (by rw [s2];exact hm))).trans (Xd.same o2 o3 fun x=>(o4 x).2),o1.trans s1⟩
    .cases h
   .cases h
  .cases h
 .cases h
theorem y8w {st st':St} {t:TypeId} {len:Nat} {ps:List (Nat×B9)} {v:B9} {un:Bool} (floor:Nat) (h:Kj P un st t len ps=some (v,st')):Xd floor st st'/\st'.env=st.env:=by
 unfold Kj at h;split at h
 .split at h
  .obtain ⟨_,h⟩:=Zo h;split at h
   .simp only [Ad,Ae] at h;obtain ⟨_,rfl⟩:=h;exact ⟨Xd.new st _ _,rfl⟩
   .cases h
  .cases h
 .cases h
theorem z7g {st st':St} {t:TypeId} {x y v:B9} (floor:Nat) (h:Un P st t x y=some (v,st')):Xd floor st st'/\st'.env=st.env:=by
 unfold Un at h;split at h
 .split at h
  .obtain ⟨_,h⟩:=Zo h;simp only [Ad,Ae] at h;obtain ⟨_,rfl⟩:=h;exact ⟨Xd.new st _ _,rfl⟩
  .cases h
 .cases h
theorem w4n {floor:Nat} {st st':St} {ts:List TypeId} {xs:zy} {v:B9} (h:GC P floor st ts xs=some (v,st')):Xd floor st st'/\st'.env=st.env:=by
 unfold GC at h;split at h
 .split at h
  .split at h
   .split at h
    .obtain ⟨_,h⟩:=Zo h;split at h
     .rcases Uw h with ⟨_,h⟩ | ⟨_,h⟩
      .grind [Xd.refl]
      .obtain ⟨_,h⟩:=Zo h;simp only [Ad,Ae] at h;obtain ⟨_,rfl⟩:=h;exact ⟨Xd.new st _ _,rfl⟩
     .split at h
      .rename_i blk hm;split at h
       .obtain ⟨_,h⟩:=Zo h;split at h
        .rcases Uw h with ⟨_,h⟩ | ⟨_,h⟩
         .obtain ⟨hc,h⟩:=Zo h;simp only [Ac] at hc;simp only [Ad,Ae] at h;obtain ⟨_,rfl⟩:=h;exact ⟨Xd.write st _ (Al hc.1) hm,rfl⟩
         .simp only [Ad,Ae] at h;obtain ⟨_,rfl⟩:=h;exact ⟨Xd.new st _ _,rfl⟩
        .obtain ⟨hc,h⟩:=Zo h;simp only [Ac] at hc;have hf:=Al hc.2;rcases Uw h with ⟨_,h⟩ | ⟨_,h⟩
         .simp only [Ad,Ae] at h;obtain ⟨_,rfl⟩:=h;exact ⟨Xd.write st _ hf hm,rfl⟩
         .obtain ⟨_,h⟩:=Zo h;simp only [Ad,Ae] at h;obtain ⟨_,rfl⟩:=h;exact ⟨(Xd.write st none hf hm).trans (Xd.new _ _ _),rfl⟩
       .cases h
      .cases h
     .cases h
    .cases h
   .cases h
  .cases h
 .cases h
theorem Xd.put {floor:Nat} (st:St) (cs:Option CG) {st':St} (hm:st'.mem=Wv st.mem st.next cs) (hn:st'.next=st.next+1) (ho:st'.ob=true->st.ob=true):Xd floor st st' where
 nxt:=by grind
 bd h k hk:=by
  grind [Zv]
 low hf k hk:=by grind [Zv]
 ob:=ho
theorem y8q {cx:CP} {st st':St} {t:TypeId} {x y v:B9} (h:Ku P cx st t x y=some (v,st')):Xd cx.floor st st'/\st'.env=st.env:=by
 unfold Ku at h;split at h
 .split at h
  .obtain ⟨_,h⟩:=Zo h;simp only [Aq,Ae] at h;obtain ⟨_,h1,_,rfl⟩:=h;obtain ⟨o1,o2,o3,o4⟩:=Wu h1;exact ⟨Xd.put st _ o2 (o3.trans rfl) fun x=>(o4 x).2,o1⟩
  .cases h
 .cases h
theorem x7k {cx:CP} {st st':St} {ts:List TypeId} {xs:zy} {v:B9} (h:NL P cx st ts xs=some (v,st')):Xd cx.floor st st'/\st'.env=st.env:=by
 unfold NL at h;split at h
 .split at h
  .split at h
   .cases h
   .split at h
    .split at h
     .rename_i hm;split at h
      .obtain ⟨hc,h⟩:=Zo h;simp only [Ac] at hc;simp only [Aq,Ae] at h;obtain ⟨_,h1,_,rfl⟩:=h;obtain ⟨o1,o2,o3,o4⟩:=Wu h1;exact ⟨(Xd.write st none (Al hc.1.2) hm).trans (Xd.put (st.withMem _) _ o2 (o3.trans rfl) fun x=>(o4 x).2),o1⟩
      .cases h
     .cases h
    .cases h
  .cases h
 .cases h
theorem u3z {floor:Nat} {st:St} {sz len:Nat} {x:B9} {b:Option Nat} {get:Nat->zy} {o:Bool} (ht:RT st.mem sz x=some (b,len,get,o)) (hf:v7c floor b=true):Xd floor st (st.withMem (Nh st.mem b)):=by
 cases b with
 | none=>exact Xd.refl _ _
 | some b=>
  have hm: ∃ab,Yn st.mem b=some ab:=by
   unfold RT at ht
   grind
  obtain ⟨ab,hm⟩:=hm;exact Xd.write st none (Al hf) hm
theorem x7j {cx:CP} {st st':St} {ts:List TypeId} {xs:zy} {v:B9} (h:HE P cx st ts xs=some (v,st')):Xd cx.floor st st'/\st'.env=st.env:=by
 unfold HE at h;split at h
 .split at h
  .split at h
   .split at h
    .rename_i ht _;obtain ⟨hc,h⟩:=Zo h;simp only [Ac] at hc;simp only [Aq,Ae] at h;obtain ⟨_,h1,_,rfl⟩:=h;obtain ⟨o1,o2,o3,o4⟩:=Wu h1;exact ⟨(u3z ht hc.2).trans (Xd.put (st.withMem _) _ o2 (o3.trans rfl) fun x=>(o4 x).2),o1⟩
    .cases h
   .cases h
  .cases h
 .cases h
theorem x7l {cx:CP} {st st':St} {ts:List TypeId} {xs:zy} {v:B9} (h:JA P cx st ts xs=some (v,st')):Xd cx.floor st st'/\st'.env=st.env:=by
 unfold JA at h;rcases Uw h with ⟨_,h⟩ | ⟨_,h⟩
 .cases h
 rcases Uw h with ⟨_,h⟩ | ⟨_,h⟩;all_goals grind [x7j,x7k,w4n]
theorem v8o {floor:Nat} {st st':St} {ts:List TypeId} {xs:zy} {v:B9} (h:N9 P floor st ts xs=some (v,st')):Xd floor st st'/\st'.env=st.env:=by
 unfold N9 at h;split at h
 .split at h
  .split at h
   .split at h
    .obtain ⟨_,h⟩:=Zo h;split at h
     .grind [Xd.refl]
     .obtain ⟨_,h⟩:=Zo h
      grind [Xd.refl]
     .dsimp only at h;split at h
      .rename_i blk hm;obtain ⟨hc,h⟩:=Zo h;simp only [Ac] at hc;simp only [Ad,Ae] at h;obtain ⟨_,rfl⟩:=h;exact ⟨Xd.write st _ (Al hc.2.1) hm,rfl⟩
      .cases h
     .cases h
    .cases h
   .cases h
  .cases h
 .cases h
theorem v2m {floor:Nat} {st st':St} {ts:List TypeId} {xs:zy} {v:B9} (h:NV P floor st ts xs=some (v,st')):Xd floor st st'/\st'.env=st.env:=by
 unfold NV at h;split at h
 .split at h
  .split at h
   .split at h
    .grind [Xd.refl]
    .rcases Uw h with ⟨_,h⟩ | ⟨_,h⟩
     .grind [Xd.refl]
     .obtain ⟨hc,h⟩:=Zo h;simp only [Ac] at hc;split at h
      .rename_i blk hm;obtain ⟨_,h⟩:=Zo h;simp only [Ad,Ae] at h;obtain ⟨_,rfl⟩:=h;exact ⟨Xd.write st _ (Al hc.2) hm,rfl⟩
      .cases h
    .cases h
   .cases h
  .cases h
 .cases h
theorem x7f {S:CB} {R:CL} (hR:Er R) {lift:Bool} {f:FuncId} {args:zy} {cx:CP} {st st':St} {v:B9} (h:SE P S R lift f args cx st=some (v,st')):
  (Xd cx.floor st st'/\(lift=true-> ∀b,b<st.next->I6 S f args≠some b->Yn st'.mem b=Yn st.mem b))/\st'.env=st.env:=by
 unfold SE at h;split at h
 .rcases Uw h with ⟨_,h⟩ | ⟨_,h⟩
  .split at h
   .obtain ⟨_,h⟩:=Zo h;simp only [Aq,Ae] at h
    grind [Wu,Xd.same]
   .cases h
  .split at h;split at h
   .obtain ⟨_,h⟩:=Zo h;simp only [Aq,Ae] at h
    grind [Wu,Xd.same]
   .cases h
 .split at h
  .rename_i v0 b blk o _;split at h
   .rename_i ab hm;obtain ⟨hc,h⟩:=Zo h;simp only [Ac,A8] at hc;simp only [Aq,Ae] at h;obtain ⟨st1,h1,_,rfl⟩:=h;obtain ⟨e1,e2,e3,e4⟩:=Wu h1;exact ⟨⟨(Xd.write st (some blk) (Al hc.2) hm).trans (Xd.same e2 e3 fun x=>(e4 x).2),fun hl=>by grind⟩,e1⟩
   .cases h
  .cases h
 .rename_i ty0 F hF;split at h
  .rename_i b sz n sz' r;split at h
   .rename_i cells ty A hm;obtain ⟨hc,h⟩:=Zo h;simp only [Ac] at hc;split at h
    .rename_i n' g o _;simp only [Aq,Ae] at h;obtain ⟨st1,h1,_,rfl⟩:=h;obtain ⟨env,mem,next,orc,ob⟩:=st;simp only at h1 hm ⊢;obtain ⟨e1,e2,e3,e4⟩:=Wu h1;simp only at e1 e2 e3 e4;have hle:=Al hc.2.2.1;refine ⟨⟨⟨?_,fun hb k hk=> ?_,fun hf k hk=> ?_,fun x=>(e4 x).2⟩,fun _ k hk hn=> ?_⟩,e1⟩;all_goals grind [Zv,I6]
    .cases h
   .cases h
  .cases h
 .split at h
  .split at h
   .split at h
    .rename_i st2 hr;split at h
     .simp only [Ad,Ae] at h;obtain ⟨_,rfl⟩:=h;have q:=hR _ _ _ _ hr;refine ⟨?_,rfl⟩;cases lift with
      | false=>exact ⟨⟨q.nxt,q.bd,q.low,q.ob⟩,fun x=>by cases x⟩
      | true=>refine ⟨⟨q.nxt,q.bd,fun hf b hb=>q.low (Ar _) b (AY hb hf),q.ob⟩,fun _ b hb _=>q.low (Ar _) b hb⟩
     .cases h
    .cases h
   .cases h
  .cases h
theorem v2j {cx:CP} {st st':St} {ts:List TypeId} {b sz off len:Nat} {x v:B9} (h:JL P cx st ts b sz off len x=some (v,st')):Xd cx.floor st st'/\st'.env=st.env:=by
 unfold JL at h;split at h
 .split at h
  .split at h
   .rename_i hm;split at h
    .obtain ⟨hc,h⟩:=Zo h;simp only [Ac] at hc;simp only [Aq,Ae] at h;obtain ⟨_,h1,_,rfl⟩:=h;obtain ⟨o1,o2,o3,o4⟩:=Wu h1;exact ⟨(Xd.write st _ (Al hc.1) hm).trans (Xd.same o2 o3 fun x=>(o4 x).2),o1⟩
    .cases h
   .cases h
  .cases h
 .cases h
theorem v2k {cx:CP} {st st':St} {ts:List TypeId} {xs:zy} {v:B9} (h:Rk P cx st ts xs=some (v,st')):Xd cx.floor st st'/\st'.env=st.env:=by
 unfold Rk at h
 grind [v2j,v8o]
theorem y8t {S:CB} {R:CL} (hR:Er R) {lift:Bool} {op:Op} {cx:CP} {st st':St} {v:B9} (h:Vv P S R lift op cx st=some (v,st')):Xd cx.floor st st'/\st'.env=st.env:=by
 unfold Vv at h;split at h
 .split at h
  .rename_i hl;obtain ⟨l1,l2,l3,l4⟩:=W8 hl;simp only [Aq,Ae] at h
   grind [Wu,Xd.same]
  .cases h
 .simp only [Aq,Ae] at h;obtain ⟨_,_,_,rfl⟩:=h;exact ⟨Xd.new st _ _,rfl⟩
 .obtain ⟨_,h⟩:=Zo h;simp only [Ad,Ae] at h;obtain ⟨_,rfl⟩:=h;exact ⟨Xd.new st _ _,rfl⟩
 .exact y8w _ h
 .split at h
  .simp only [Aq,Ae] at h
   grind [w4e]
  .simp only [Aq,Ae] at h
   grind [v2h]
 .rcases Uw h with ⟨_,h⟩ | ⟨_,h⟩
  .rcases Uw h with ⟨_,h⟩ | ⟨_,h⟩
   .have q:=z7g (st:=st.dropO) cx.floor h;exact ⟨⟨q.1.nxt,q.1.bd,q.1.low,q.1.ob⟩,q.2⟩
   .have q:=y8q (st:=st.dropO) h;exact ⟨⟨q.1.nxt,q.1.bd,q.1.low,q.1.ob⟩,q.2⟩
  .exact z7g _ h
 all_goals grind [x7l,v2k,v2m,x7f]
def Dm (x:Nat) (st st':St):Prop:=Yn st'.mem x=Yn st.mem x
theorem Kp {x b:Nat} (st:St) (o:Option CG) (hn:b≠x):Dm x st (st.withMem (Wv st.mem b o)):=Zv _ _ fun e=>hn e.symm
theorem RS {x:Nat} (st:St) (cs:zy) (ty:TypeId) (hx:x<st.next):Dm x st (Cr st cs ty):=Zv _ _ (BC hx)
theorem w4d {x:Nat} {floor:Nat} {st st':St} {t:TypeId} {a v:B9} (h:NX P floor st t a v=some st') (hn: ∀off,a≠ .ptr x off):Dm x st st':=by
 unfold NX at h;split at h
 .rename_i b off _ _;obtain ⟨_,h⟩:=Zo h;split at h
  .obtain ⟨_,h⟩:=Zo h
   grind [Kp]
  .cases h
 .cases h
theorem x6z {x:Nat} {cx:CP} {st st':St} {t:TypeId} {a v:B9} (h:Mg P cx st t a v=some st') (hn: ∀sz r fo,a≠ .epa x sz r fo):Dm x st st':=by
 unfold Mg at h;split at h
 .rename_i b sz r fo _ _;obtain ⟨_,h⟩:=Zo h;split at h
  .split at h
   .split at h
    .rename_i rw1 st1 eN;obtain ⟨_,s2,_,_⟩:=z7l eN;obtain ⟨_,o2,_,_⟩:=Wu h;unfold Dm;rw [o2,<-s2];exact Kp st1 _ fun e=>hn sz r fo (by rw [e])
    .cases h
   .cases h
  .cases h
 .cases h
theorem y3w {x:Nat} {st st':St} {t:TypeId} {len:Nat} {ps:List (Nat×B9)} {v:B9} {un:Bool} (hx:x<st.next) (h:Kj P un st t len ps=some (v,st')):Dm x st st':=by
 unfold Kj at h;split at h
 .split at h
  .obtain ⟨_,h⟩:=Zo h
   grind [RS]
  .cases h
 .cases h
theorem z5t {x:Nat} {st st':St} {t:TypeId} {l c v:B9} (hx:x<st.next) (h:Un P st t l c=some (v,st')):Dm x st st':=by
 unfold Un at h;split at h
 .split at h
  .obtain ⟨_,h⟩:=Zo h
   grind [RS]
  .cases h
 .cases h
theorem x7i {x floor:Nat} {st st':St} {ts:List TypeId} {xs:zy} {v:B9} (hx:x<st.next) (h:GC P floor st ts xs=some (v,st')) (hn: ∀off len cap r,xs≠ .sl x off len cap::r):Dm x st st':=by
 unfold GC at h;split at h
 .split at h
  .split at h
   .split at h
    .obtain ⟨_,h⟩:=Zo h;split at h
     .rcases Uw h with ⟨_,h⟩ | ⟨_,h⟩
      .simp only [Ad,Ae] at h;obtain ⟨_,rfl⟩:=h;rfl
      .obtain ⟨_,h⟩:=Zo h
       grind [RS]
     .have hb:=fun e=>hn _ _ _ _ (AE (fun b=>B9.sl b _ _ _::_) e);split at h
      .rename_i blk hm;split at h
       .obtain ⟨_,h⟩:=Zo h;split at h
        .rcases Uw h with ⟨_,h⟩ | ⟨_,h⟩
         .obtain ⟨hc,h⟩:=Zo h
          grind [Kp]
         grind [RS]
        .obtain ⟨hc,h⟩:=Zo h;rcases Uw h with ⟨_,h⟩ | ⟨_,h⟩
         .grind [Kp]
         .obtain ⟨_,h⟩:=Zo h;simp only [Ad,Ae] at h;obtain ⟨_,rfl⟩:=h;exact (RS (st.withMem (Wv st.mem _ none)) _ _ hx).trans (Kp st none hb)
       .cases h
      .cases h
     .cases h
    .cases h
   .cases h
  .cases h
 .cases h
theorem y3t {x:Nat} {cx:CP} {st st':St} {t:TypeId} {l c v:B9} (hx:x<st.next) (h:Ku P cx st t l c=some (v,st')):Dm x st st':=by
 unfold Ku at h;split at h
 .split at h
  .obtain ⟨_,h⟩:=Zo h;simp only [Aq,Ae] at h;obtain ⟨_,h1,_,rfl⟩:=h;obtain ⟨_,o2,_,_⟩:=Wu h1
   grind [Dm,Zv]
  .cases h
 .cases h
theorem x4c {x:Nat} {cx:CP} {st st':St} {ts:List TypeId} {xs:zy} {v:B9} (hx:x<st.next) (h:NL P cx st ts xs=some (v,st')) (hn: ∀sz off len cap r,xs≠ .sla x sz off len cap::r):Dm x st st':=by
 unfold NL at h;split at h
 .have hb:=fun e=>hn _ _ _ _ _ (AE (fun b=>B9.sla b _ _ _ _::_) e);split at h
  .split at h
   .cases h
   .split at h
    .split at h
     .split at h
      .obtain ⟨hc,h⟩:=Zo h;simp only [Aq,Ae] at h;obtain ⟨_,h1,_,rfl⟩:=h;obtain ⟨_,o2,_,_⟩:=Wu h1
       grind [Dm,Zv]
      .cases h
     .cases h
    .cases h
  .cases h
 .cases h
theorem y9g {m:CJ} {sz len b:Nat} {x:B9} {get:Nat->zy} {o:Bool} (ht:RT m sz x=some (some b,len,get,o)):(∃off len cap,x=.sl b off len cap)\/ ∃sz off len cap,x=.sla b sz off len cap:=by
 unfold RT at ht
 grind
theorem x4b {x:Nat} {cx:CP} {st st':St} {ts:List TypeId} {xs:zy} {v:B9} (hx:x<st.next) (h:HE P cx st ts xs=some (v,st')) (hn: ∀off len cap r,xs≠ .sl x off len cap::r) (hn2: ∀sz off len cap r,xs≠ .sla x sz off len cap::r):Dm x st st':=by
 unfold HE at h;split at h
 .split at h
  .split at h
   .split at h
    .rename_i b len get o1 n g o2 ht _;obtain ⟨hc,h⟩:=Zo h;simp only [Aq,Ae] at h;obtain ⟨_,h1,_,rfl⟩:=h;obtain ⟨_,o2,_,_⟩:=Wu h1;unfold Dm;rw [o2];show Yn (Wv (Nh st.mem b) st.next _) x=_;rw [Zv _ _ (BC hx)];cases b with
     | none=>rfl
     | some b=>
      refine Zv _ _ fun e=> ?_
      grind [y9g]
    .cases h
   .cases h
  .cases h
 .cases h
theorem x4d {x:Nat} {cx:CP} {st st':St} {ts:List TypeId} {xs:zy} {v:B9} (hx:x<st.next) (h:JA P cx st ts xs=some (v,st')) (hn: ∀off len cap r,xs≠ .sl x off len cap::r) (hn2: ∀sz off len cap r,xs≠ .sla x sz off len cap::r):Dm x st st':=by
 unfold JA at h;rcases Uw h with ⟨_,h⟩ | ⟨_,h⟩
 .cases h
 rcases Uw h with ⟨_,h⟩ | ⟨_,h⟩;all_goals grind [x4b,x4c,x7i]
theorem v2i {x floor:Nat} {st st':St} {ts:List TypeId} {xs:zy} {v:B9} (h:N9 P floor st ts xs=some (v,st')) (hn: ∀off len cap r,xs≠ .sl x off len cap::r):Dm x st st':=by
 unfold N9 at h;split at h
 .split at h
  .split at h
   .split at h
    .obtain ⟨_,h⟩:=Zo h;split at h
     .simp only [Ad,Ae] at h;obtain ⟨_,rfl⟩:=h;rfl
     .obtain ⟨_,h⟩:=Zo h;simp only [Ad,Ae] at h;obtain ⟨_,rfl⟩:=h;rfl
     .have hb:=fun e=>hn _ _ _ _ (AE (fun b=>B9.sl b _ _ _::_) e);dsimp only at h;split at h
      .obtain ⟨hc,h⟩:=Zo h
       grind [Kp]
      .cases h
     .cases h
    .cases h
   .cases h
  .cases h
 .cases h
theorem w4i {x:Nat} {cx:CP} {st st':St} {ts:List TypeId} {b sz off len:Nat} {y v:B9} (h:JL P cx st ts b sz off len y=some (v,st')) (hn:b≠x):Dm x st st':=by
 unfold JL at h;split at h
 .split at h
  .split at h
   .split at h
    .obtain ⟨_,h⟩:=Zo h;simp only [Aq,Ae] at h;obtain ⟨_,h1,_,rfl⟩:=h;obtain ⟨_,o2,_,_⟩:=Wu h1;show Yn _ x=_;rw [o2];exact Kp st _ hn
    .cases h
   .cases h
  .cases h
 .cases h
theorem w4j {x:Nat} {cx:CP} {st st':St} {ts:List TypeId} {xs:zy} {v:B9} (h:Rk P cx st ts xs=some (v,st')) (hn: ∀off len cap r,xs≠ .sl x off len cap::r) (hn2: ∀sz off len cap r,xs≠ .sla x sz off len cap::r) (hn3: ∀sz off len r,xs≠ .slv x sz off len::r):Dm x st st':=by
 unfold Rk at h
 grind [w4i,v2i]
theorem w4l {x floor:Nat} {st st':St} {ts:List TypeId} {xs:zy} {v:B9} (h:NV P floor st ts xs=some (v,st')) (hn: ∀off len cap r,xs≠ .sl x off len cap::r):Dm x st st':=by
 unfold NV at h;split at h
 .split at h
  .split at h
   .split at h
    .simp only [Ad,Ae] at h;obtain ⟨_,rfl⟩:=h;rfl
    .have hb:=fun e=>hn _ _ _ _ (AE (fun b=>B9.sl b _ _ _::_) e);rcases Uw h with ⟨_,h⟩ | ⟨_,h⟩
     .simp only [Ad,Ae] at h;obtain ⟨_,rfl⟩:=h;rfl
     .obtain ⟨hc,h⟩:=Zo h;split at h
      .obtain ⟨_,h⟩:=Zo h
       grind [Kp]
      .cases h
    .cases h
   .cases h
  .cases h
 .cases h
theorem x7d {S:CB} {R:CL} {lift:Bool} {op:Op} {cx:CP} {st st':St} {v:B9} {x:Nat} (hk:Xb op=.chain) (hx:x<st.next) (hn:EF op st.eval≠some x) (h:Vv P S R lift op cx st=some (v,st')):Dm x st st':=by
 cases op with
 | store t a y=>
  simp only [Vv] at h;split at h
  .rename_i b sz r fo hb;simp only [Aq,Ae] at h
   grind [x6z,EF]
  .simp only [Aq,Ae] at h
   grind [w4d,EF]
 | box t y=>
  unfold Vv at h;simp only at h;obtain ⟨_,h⟩:=Zo h
  grind [RS]
 | buildSlice t n ps=>exact y3w hx h
 | makeSlice t l c=>
  unfold Vv at h;simp only at h;rcases Uw h with ⟨_,h⟩ | ⟨_,h⟩
  .rcases Uw h with ⟨_,h⟩ | ⟨_,h⟩
   .exact (z5t (st:=st.dropO) hx h)
   .exact (y3t (st:=st.dropO) hx h)
  .exact z5t hx h
 | call c=>
  obtain ⟨callee,args,argTypes⟩:=c;cases callee with
  | builtin b=>
   cases b <;> first
    | (simp [Xb] at hk;done)
    | exact x4d hx h (fun off len cap r e=>hn (by simp only [EF,e])) (fun sz off len cap r e=>hn (by simp only [EF,e]))
    | exact w4j h (fun off len cap r e=>hn (by simp only [EF,e])) (fun sz off len cap r e=>hn (by simp only [EF,e])) (fun sz off len r e=>hn (by simp only [EF,e]))
    | exact w4l h fun off len cap r e=>hn (by simp only [EF,e])
  | value f=>simp [Xb] at hk
  | invoke r m=>simp [Xb] at hk
 | _=>simp [Xb] at hk
theorem Ja : ∀(d:Nat) (a:B9) (u:Value),pf d a=true->Yv ρ a u->Yv ρ.bare a u
 | 0,_,_,h,_=>by simp [pf] at h
 | d+1,a,u,h,hr=>by
  cases hr with
  | undef=>simp [pf] at h
  | bool=>exact .bool _
  | int=>exact .int _ _
  | str=>exact .str _
  | mapr=>simp [pf] at h
  | ifbt=>exact .ifbt
  | ifbf=>exact .ifbf _ _
  | agg cs vs hl hh=>simp only [pf,Au] at h;exact .agg cs vs hl fun i h1 h2=>Ja d _ _ (h _ (AS h1)) (hh i h1 h2)
  | tup cs vs hl hh=>simp only [pf,Au] at h;exact .tup cs vs hl fun i h1 h2=>Ja d _ _ (h _ (AS h1)) (hh i h1 h2)
  | ptr=>simp [pf] at h
  | nilp=>exact .nilp
  | sl=>simp [pf] at h
  | sla=>simp [pf] at h
  | slan=>simp [pf] at h
  | slv=>simp [pf] at h
  | slve=>simp [pf] at h
  | slvn=>simp [pf] at h
  | nnl=>simp [pf] at h
  | epa=>simp [pf] at h
  | nils=>exact .nils
  | fn f cs vs hl hh=>obtain rfl:cs=[]:=List.isEmpty_iff.1 h;exact .fn f [] vs hl fun i h1=>absurd h1 (AD _)
  | nilf=>exact .nilf
  | fnb=>simp [pf] at h
  | yld=>simp [pf] at h
  | ifc=>simp [pf] at h
  | nili=>exact .nili
  | dat len get blk base sz cap val dH hsz hv hh=>exact .dat len get blk base sz cap val dH hsz hv hh
  | datn get=>exact .datn get
  | datz get a c=>exact .datz get a c
  | dptr cs blk base val hv hh=>exact .dptr cs blk base val hv hh
def t0d (P:Program) (f:FuncId) (F:zy->Option (B9×Bool)):Prop:=
 ∀args v,F args=some (v,true)-> ∀(H:E8) (vals:Array Value) (w:World),Vg (Yv (DS H)) args vals.toList->(∀k o,H k=some o->w.heap[k]? =some o)->MP H->
  Calls P f vals w fun e w'=> ∃H' u,(∀k o,H k=some o->H' k=some o)/\(∀k o,H' k=some o->w'.heap[k]? =some o)/\(∀k,k<w.heap.size->H' k=H k)/\e=.returned u/\Yv (DS H') v u/\RowKit.Below w.heap.size w w'
def JO (P:Program) (f:FuncId) (F:zy->CJ->Option (B9×Nat×CG×Bool)):Prop:=
 ∀args mem v b blk,F args mem=some (v,b,blk,true)->(Yn mem b).isSome =true-> ∀(ρ:CE) (next floor:Nat) (vals:Array Value) (w:World),floor<=b->Vg (Yv ρ) args vals.toList->CF ρ mem next w->
  Calls P f vals w fun e w'=> ∃u,e=.returned u/\Yv ρ v u/\CF ρ (Wv mem b (some blk)) next w'/\Ev ρ ρ floor mem next (Wv mem b (some blk)) next w w'
def J2 (H:E8) (l:Option C3):CE:=⟨fun b=>if b=0 then l else none,H,fun _=>none⟩
def FZ (ty:TypeId) (sz n:Nat) (get:Nat->zy):CJ:=Wv .leaf 0 (some ⟨rows n get,ty,some ⟨sz,n,.flat get⟩⟩)
def Me (P:Program) (f:FuncId) (ty:TypeId) (F:Nat->(Nat->zy)->zy->Option (Nat×(Nat->zy)×Bool)):Prop:=
 ∀ (sz n:Nat) (get:Nat->zy) (r:zy) (n':Nat) (g:Nat->zy),F n get r=some (n',g,true)->Lz sz n get=true->Lz sz n' g=true->1<=sz-> ∀(H:E8) (l:Option C3) (vals:Array Value) (w:World),
  Vg (Yv (J2 H l)) (.sla 0 sz 0 n (.un sz)::r) vals.toList->CF (J2 H l) (FZ ty sz n get) 1 w->(∀k o,w.heap[k]? =some o->(∃l0,l=some l0/\l0.blk=k)\/H k=some o)->
  Calls P f vals w fun e w'=> ∃ρ' u m' nx b,e=.returned u/\Yv ρ' (.sla b sz 0 n' (.un sz)) u/\Yn m' b=some ⟨rows n' g,ty,some ⟨sz,n',.flat g⟩⟩/\CF ρ' m' nx w'/\
   (∀k o,H k=some o->ρ'.fz k=some o)/\w.heap.size<=w'.heap.size/\w'.os=w.os/\w'.tape=w.tape/\w'.output=w.output
def RF (P:Program) (f:FuncId):Fh->Prop
 | .val F=>t0d P f F
 | .eff F=>JO P f F
 | .gro ty F=>Me P f ty F
def Zw (P:Program) (S:CB):Prop:=
 ∀f F,S f=some F->(∃fn,P.funcs[f]? =some fn/\fn.body.isSome=true)/\RF P f F
def t0f (P:Program):Prop:=(P.funcs[J3]?).isSome =true-> ∀(b:Nat) (p v:Value) (w:World) (l:zu),l.length<=9223372036854775807->w.heap[b]? =some (.cells #[p,v] Q9 (0,0))->
 ((v=.slice none 0 0/\l=[])\/ ∃g o c cur,v=.slice (some ⟨g,o,none⟩) l.length c/\l.length<=c/\w.heap[g]? =some (.cells cur Q6 (0,0))/\(l≠ []->o+l.length<=cur.size)/\ ∀j x,l[j]? =some x->cur[o+j]? =some (.int .u8 x.toNat))->
 Calls P J3 #[.pointer (some ⟨b,0,none⟩)] w fun e w'=>e=.returned (.string ⟨l.toArray⟩)/\w.heap.size<=w'.heap.size/\
  (∀k o,w.heap[k]? =some o->(∀g o n c,v=.slice (some ⟨g,o,none⟩) n c->g≠k)->w'.heap[k]? =some o)/\w'.os=w.os/\w'.tape=w.tape/\w'.output=w.output
def ER (P:Program):Prop:=(∀(f:FuncId) (fn:Func),P.funcs[f]? =some fn->fn.body.isSome=true->(fn.name == "runtime.NumGoroutine")=false)/\t0f P
def G5 (P:Program) (R:CL):Prop:=
 ∀ cx todo st st',cx.floor<=st.next->R cx todo st=some st'->st'.ob=true-> ∀(ρ:CE) (a:Act) (w:World) (b:Frame) (cs:List Frame),a.defers=[]->Vy ρ st.env cx.n a.tmps->CF ρ st.mem st.next w->
  ∃ρ' a' todo' w',Steps P (lone (b.at a todo) cs w) (lone {b.at a' todo' with mode:=.returning} cs w')/\a'.defers=[]/\Vy ρ' st'.env cx.n a'.tmps/\CF ρ' st'.mem st'.next w'/\
   Ev ρ ρ' cx.floor st.mem st.next st'.mem st'.next w w'
theorem y7u : ∀(args:zy) (i:Nat) (t:T B9) (k:Nat),T.get .undef (FL args i t) k=if i<=k/\k<i+args.length then args.getD (k - i) .undef else T.get .undef t k
 | [],i,t,k=>by rw [AC (by grind)];rfl
 | a::r,i,t,k=>by
  simp only [FL];rw [y7u r (i+1) _ k,T.get_set];by_cases h1:k=i
  .subst h1;rw [AC (by omega),AJ rfl,AJ (by simp)];simp
  .by_cases h2:i+1<=k/\k<i+1+r.length
   .rw [AJ h2,AJ (by simp;omega)];have:k - i=(k - (i+1))+1:=(by omega);rw [this];simp
   .rw [AC h2,AC h1,AC (by simp;omega)]
def Tj (tmps:Array Value):ResultVar->Sem Value
 | .tmp t=>pure (tmps.getD t undef)
 | .cell a t=>do loadVar t (<-asAddr (tmps.getD a undef))
theorem w9v (fn:Func) (tmps:Array Value):results fn tmps=(do
  let vs<-fn.results.mapM (Tj tmps)
  pure (if h:vs.size=1 then vs[0] else .tuple vs)):=by
 unfold results;have:(fun r:ResultVar=>(match r with | .tmp t=>pure (tmps.getD t undef) | .cell a t=>do loadVar t (<-asAddr (tmps.getD a undef)):Sem Value))=Tj tmps:=by
  funext r
  cases r <;> rfl
 rw [<-this];rfl
theorem x3w {st:St} {w:World} {tmps:Array Value} {n:Nat} (dD:Vy ρ st.env n tmps) (cZ:CF ρ st.mem st.next w) {r:ResultVar} {v:B9} (h:Y6 P st r=some v):
  ∃u,Yv ρ v u/\(Tj tmps r).run P w=.ok u w:=by
 have get: ∀t,Yv ρ (st.tmp t) (tmps.getD t undef):=fun t=>dD.get t;cases r with
 | tmp t=>simp only [Y6,Ad] at h;subst h;exact ⟨_,get t,rfl⟩
 | cell a t=>
  simp only [Y6] at h;obtain ⟨z,hz,hr⟩:=y8r cZ h (get a);refine ⟨z,hz,?_⟩;have ha:=get a;unfold Tj;simp only;generalize tmps.getD a undef=u at ha hr ⊢;unfold Na at h;split at h
  .rename_i e;rw [e] at ha;cases ha
   grind [Instr.loadAt,Instr.sureAddr,asAddr]
  .rename_i e;rw [e] at ha;cases ha
   grind [Instr.loadAt,Instr.sureAddr,asAddr]
  .cases h
theorem z7f {st:St} {w:World} {tmps:Array Value} {n:Nat} (dD:Vy ρ st.env n tmps) (cZ:CF ρ st.mem st.next w): ∀{rs:List ResultVar} {vs:zy},Ko P st rs=some vs->
  ∃us,Vg (Yv ρ) vs us/\(rs.mapM (Tj tmps)).run P w=.ok us w
 | [],vs,h=>by simp only [Ko,Ad] at h;subst h;exact ⟨[],.nil,by simp⟩
 | r::rs,vs,h=>by
  unfold Ko at h;split at h
  .rename_i v vs' h1 h2;obtain rfl:=Ag h;obtain ⟨u,hu,hr⟩:=x3w dD cZ h1;obtain ⟨us,hus,hrs⟩:=z7f dD cZ h2;refine ⟨u::us,.cons hu hus,?_⟩;rw [List.mapM_cons,Sem.run_bind,hr];simp only [Result.andThen_ok,Sem.run_bind,hrs,Sem.run_pure]
  .cases h
theorem z3o {fn:Func} {st:St} {w:World} {tmps:Array Value} {n:Nat} (dD:Vy ρ st.env n tmps) (cZ:CF ρ st.mem st.next w) {vs:zy} (h:Ko P st fn.results.toList=some vs):
  ∃u,Yv ρ (Uz vs) u/\(results fn tmps).run P w=.ok u w:=by
 obtain ⟨us,hus,hr⟩:=z7f dD cZ h;refine ⟨if h:us.toArray.size=1 then us.toArray[0] else .tuple us.toArray,?_,?_⟩
 .cases hus with
  | nil=>exact .tup [] _ rfl fun i h1 _=>by simp at h1
  | cons h1 hs=>cases hs with
   | nil=>simpa [Uz] using h1
   | cons h2 hs=>have eB:=Vg.cons h1 (Vg.cons h2 hs);have hl:=eB.length;simp only [Uz];rw [dif_neg (by simp)];exact .tup _ _ (by grind) fun i h1 h2=>by simpa using eB.get i h1 (by grind)
 .rw [w9v,Sem.run_bind,Array.mapM_eq_mapM_toList,Sem.run_map,hr];rfl
theorem y7t {args:zy} {vals:Array Value} (h:Vg (Yv ρ) args vals.toList) (ntmps:Nat):
  Vy ρ (FL args 0 .leaf) (Nat.max ntmps args.length) (vals++Array.replicate (ntmps - vals.size) undef):=by
 have hl:args.length=vals.size:=by simpa using h.length
 have hmax:Nat.max ntmps args.length=vals.size+(ntmps - vals.size):=by
  grind
 refine ⟨by grind,fun i=> ?_,fun i hi=> ?_⟩
 .rw [y7u];by_cases hi:i<args.length
  .rw [AJ (by omega)];have h2:i<vals.toList.length:=by grind
   have:=h.get i hi h2;have e1:args.getD (i - 0) .undef =args[i]:=by simp [hi]
   have e2:(vals++Array.replicate (ntmps - vals.size) undef).getD i undef=vals.toList[i]:=by have h3:i<vals.size:=(by grind);simp [Array.getElem?_append,h3]
   grind
  .rw [AC (by omega)];exact .undef _
 .have hle:args.length<=Nat.max ntmps args.length:=Nat.le_max_right _ _;rw [y7u,AC (by omega)];rfl
theorem R5 {f:FuncId} {fn:Func} (hN:ER P) (hf:P.funcs[f]? =some fn) (hb:fn.body.isSome=true) (args:Array Value) (w:World):(callFunc f args).run P w=.ok (.enter f args) w:=by
 have h1: ¬fn.name= "runtime.NumGoroutine" :=by simpa using hN.1 f fn hf hb
 have h2: ¬fn.body=none:=by grind
 simp [callFunc,hf,h1,h2]
theorem x7y {mem:CJ} {next:Nat} {w:World} (h:CF ρ mem next w) {a a':B9} {o:Bool} (hv:j1k P mem a=(a',o)) (ho:o=true) {u:Value} (hr:Yv ρ a u) (hp:pf 3 a'=true):Yv (DS fun k=>w.heap[k]?) a' u:=by
 subst ho;have hle:ρ.bare.le (DS fun k=>w.heap[k]?):=⟨fun _ _ e=>(by cases e),fun k o e=>h.old k o e,fun _ _ e=>(by cases e)⟩
 unfold j1k at hv;split at hv
 .rename_i b sz off len cap;split at hv
  .rename_i blk hm;split at hv
   .rename_i A hA;simp only [Ae,Ac,Ao] at hv;obtain ⟨rfl,h1,h2,h3⟩:=hv;obtain rfl:=Aj h1;have h3:= @Ax _ (Classical.propDecidable _) h3;cases hr with
    | slan=>exact .datn _
    | sla _ _ _ _ _ l c hρ dH dA=>
     obtain ⟨eD,eU,dL⟩:=(h.blk b l blk hρ hm).arr A hA;obtain ⟨cur,el,hh,_⟩:=((h.blk b l blk hρ hm).rows hA).cells;refine .dat len _ l.blk (l.base+off*A.sz) A.sz c (fun i j=>(w.cell? ⟨l.blk,l.base+(off+i)*A.sz+j,none⟩).getD undef) dA (fun i hi=>dL _ (by omega)) (fun i j hi hj=> ?_) (fun i j hi hj=> ?_)
     .obtain ⟨v,e1,e2⟩:=(h.rowAt hρ hm hA (r:=off+i) (by omega)) j hj;simp only [e1,Option.getD_some];exact (Ja 6 _ _ (Au.1 (h3 (off+i)) _ (AS hj)) e2).mono hle
     .obtain ⟨v,e1,e2⟩:=(h.rowAt hρ hm hA (r:=off+i) (by omega)) j (by grind);simp only [e1,Option.getD_some];refine ⟨cur,el,(0,0),hh,?_⟩
      grind [World.cell?]
   grind [pf]
  grind [pf]
 .rename_i b off len cap;split at hv
  .rename_i blk hm;split at hv
   .rename_i inf _;simp only [Ae,Ac,A8] at hv;obtain ⟨rfl,h0,h1,h3⟩:=hv;have h1:=Al h1;generalize inf.size=sz at h1 hp ⊢;cases hr with
    | sl _ _ _ _ l c hρ dH dA=>
     obtain ⟨cs,el,hh,_,hc⟩:=((h.blk b l blk hρ hm).at h0).cells;have hlt: ∀i,i<len->off+i*sz+sz<=blk.cells.length:=fun i hi=>by have:=AB sz (show i+1<=len by omega);rw [Nat.succ_mul] at this;omega
     have hl: ∀i,i<len->((blk.cells.drop (off+i*sz)).take sz).length =sz:=fun i hi=>by have:=hlt i hi;rw [Bl,Bv];omega
     refine .dat len _ l.blk (l.base+off) sz c (fun i j=>(cs[l.base+(off+i*sz+j)]?).getD undef) dA hl (fun i j hi hj=> ?_) (fun i j hi hj=> ?_)
     .have h4:=hlt i hi;have hj':=hj;rw [hl i hi] at hj';obtain ⟨v,e1,e2⟩:=hc (off+i*sz+j) (by omega);simp only [e1,Option.getD_some];have e3:((blk.cells.drop (off+i*sz)).take sz)[j]=blk.cells[off+i*sz+j]'(by omega):=by rw [BG,List.getElem_drop]
      rw [e3];exact (Ja 6 _ _ (Au.1 h3 _ (AS _)) e2).mono hle
     .have h4:=hlt i hi;obtain ⟨v,e1,e2⟩:=hc (off+i*sz+j) (by omega);simp only [e1,Option.getD_some];refine ⟨cs,el,(0,0),hh,?_⟩;rw [<-e1]
      congr 1
      omega
   grind [pf]
  grind [pf]
 .simp only [Ae] at hv;obtain ⟨rfl,_⟩:=hv;exact (Ja 3 _ _ hp hr).mono hle
theorem x7z {mem:CJ} {next:Nat} {w:World} (h:CF ρ mem next w) {az:zy} {us:List Value} (hr:Vg (Yv ρ) az us): ∀{az':zy} {o:Bool},UB P mem az=(az',o)->o=true->az'.all (pf 3)=true->Vg (Yv (DS fun k=>w.heap[k]?)) az' us:=by
 induction hr with
 | nil=>intro az' o hv _ _;simp only [UB,Ae] at hv;obtain ⟨rfl,_⟩:=hv;exact .nil
 | @cons a b l m h1 _ ih=>intro az' o hv ho hp;unfold UB at hv;split at hv;rename_i a1 o1 as1 q1 e1 e2;simp only [Ae] at hv;obtain ⟨rfl,rfl⟩:=hv;simp only [Ac] at ho;simp only [BH,Ac] at hp;exact .cons (x7y h e1 ho.1 h1 hp.1) (ih e2 ho.2 hp.2)
theorem w8i {σ:CE} {v:B9} {u:Value} (hs:scal v=true) (h:Yv σ v u):Yv ρ v u:=by
 cases h with
 | bool=>exact .bool _
 | int=>exact .int _ _
 | str=>exact .str _
 | ifbt=>exact .ifbt
 | ifbf=>exact .ifbf _ _
 | tup cs vs hl hh=>
  simp only [scal,Au] at hs;refine .tup cs vs hl fun i h1 h2=> ?_;have k1:=hs _ (AS h1);have k2:=hh i h1 h2;generalize cs[i]=a at k1 k2;generalize vs[i]=b at k2;cases k2 with
  | undef=>exact .undef _
  | bool=>exact .bool _
  | int=>exact .int _ _
  | str=>exact .str _
  | ifbt=>exact .ifbt
  | ifbf=>exact .ifbf _ _
  | _=>simp at k1
 | _=>simp [scal] at hs
theorem u3a {sz n:Nat} {get:Nat->zy} (h:Lz sz n get=true): ∀i,i<n->(get i).length =sz/\(get i).all pl=true:= @Ax _ (Classical.propDecidable _) h
theorem v4o {sz n:Nat} {get:Nat->zy} (h:Lz sz n get=true): ∀v∈rows n get,pl v=true:=fun v hv=>by
 obtain ⟨i,hi,hv⟩:=AM.1 hv
 grind [u3a]
theorem Ok {v:B9} {u:Value} {ρ':CE} (h:pl v=true) (hr:Yv ρ v u):Yv ρ' v u:=by
 cases hr <;> first | exact .bool _ | exact .int _ _ | (cases h;done)
theorem Wn.pl {w:World} {ab:CG} {l:C3} (h:Wn ρ w ab l) (hp: ∀v∈ab.cells,pl v=true) (ρ':CE):Wn ρ' w ab l:=by
 cases h with
 | plain h=>
  obtain ⟨h0,h1,h2,h3,cs,el,h4,h5,h6⟩:=h;refine .plain ⟨h0,h1,h2,h3,cs,el,h4,h5,fun i hi=> ?_⟩
  grind [Ok]
 | obj o r ty h n z=>subst h;have:=hp _ (Br ..);cases this
theorem v6x {f:FuncId} {F:Nat->(Nat->zy)->zy->Option (Nat×(Nat->zy)×Bool)} {ty:TypeId} (hF:Me P f ty F) {floor next:Nat} {mem:CJ} {b sz n:Nat} {r:zy} {cells:zy} {A:Da} (hm:Yn mem b=some ⟨cells,ty,some A⟩)
  (hA:A.sz=sz/\A.n=n) (hr:r.all (pf 3)=true) (hfl:floor<=b) (hsz:1<=sz) {n':Nat} {g:Nat->zy} (hv:F n A.get r=some (n',g,true)) (hp:Lz sz n A.get=true) (hp':Lz sz n' g=true)
  {vals:Array Value} (dC:Vg (Yv ρ) (.sla b sz 0 n (.un sz)::r) vals.toList) {w:World} (cZ:CF ρ mem next w):
  Calls P f vals w fun e w'=> ∃ρ' u,e=.returned u/\Yv ρ' (.sla next sz 0 n' (.un sz)) u/\CF ρ' (Wv (Wv mem b none) next (some ⟨rows n' g,ty,some ⟨sz,n',.flat g⟩⟩)) (next+1) w'/\
   Ev ρ ρ' floor mem next (Wv (Wv mem b none) next (some ⟨rows n' g,ty,some ⟨sz,n',.flat g⟩⟩)) (next+1) w w':=by
 obtain ⟨rfl,rfl⟩:=hA;have hbn:b<next:=by
  rcases A7 b next with h | h
  .exact h
  .rw [cZ.bd b h] at hm;cases hm
 let H:E8:=fun k=>if∃l,ρ b=some l/\l.blk=k then none else w.heap[k]?
 have hH: ∀k,(¬ ∃l,ρ b=some l/\l.blk=k)->H k=w.heap[k]? :=fun k hk=>AC hk;have hHs: ∀k o,H k=some o->w.heap[k]? =some o/\ ¬ ∃l,ρ b=some l/\l.blk=k:=fun k o e=>by
  by_cases hk: ∃l,ρ b=some l/\l.blk=k;all_goals grind
 have hfz: ∀k o,ρ.fz k=some o->H k=some o:=fun k o e=>by
  rw [hH k fun ⟨l,h1,h2⟩=>by
   have:=cZ.sep b l h1 (by rw [hm];rfl)
   grind]
  exact cZ.old k o e
 have hbare:ρ.bare.le (J2 H (ρ b)):=⟨fun _ _ e=>(by cases e),hfz,fun _ _ e=>(by cases e)⟩
 have key: ∀(n0:Nat) (u:Value),Yv ρ (.sla b A.sz 0 n0 (.un A.sz)) u->Yv (J2 H (ρ b)) (.sla 0 A.sz 0 n0 (.un A.sz)) u:=fun n0 u h1=>by
  cases h1 with
  | sla _ _ _ _ _ l c h hc dA=>exact .sla 0 _ 0 _ _ l c (by show (if (0:Nat)=0 then ρ b else none)=_;grind) hc dA
  | slan _ _ _ _=>exact .slan _ _ _ _
 have hargs1:Vg (Yv (J2 H (ρ b))) (.sla 0 A.sz 0 A.n (.un A.sz)::r) vals.toList:=by
  generalize vals.toList=us at dC;cases dC with
  | cons h1 h2=>
   refine .cons ?_ ?_
   .grind
   .exact Vg.of h2.length fun i g1 g2=>(Ja 3 _ _ (Au.1 hr _ (AS g1)) (h2.get i g1 g2)).mono hbare
 have hget0: ∀l,J2 H (ρ b) 0=some l↔ρ b=some l:=fun l=>Iff.rfl;have dP: ∀c l,J2 H (ρ b) c=some l->c=0/\ρ b=some l:=fun c l e=>by
  have e:(if c=0 then ρ b else none)=some l:=e
  grind
 have hm1:Yn (FZ ty A.sz A.n A.get) 0=some ⟨rows A.n A.get,ty,some ⟨A.sz,A.n,.flat A.get⟩⟩:=Yk _ _ _;have dY:CF (J2 H (ρ b)) (FZ ty A.sz A.n A.get) 1 w:=by
  refine ⟨fun c l e=>by grind,fun c c' l l' e e' _ _ _=>by grind,fun c l ab e hc=> ?_,fun k o e=>(hHs k o e).1,fun c l e _=> ?_,fun c l e=>cZ.real b l (dP c l e).2,fun c hc=> ?_,⟨fun j l e=>(by cases e),cZ.ldom.2.mono hfz⟩⟩
  .obtain ⟨rfl,e2⟩:=dP c l e;rw [hm1] at hc;obtain rfl:=Ag hc;have q:=(cZ.blk b l _ e2 hm).rows rfl;obtain ⟨q0,q1,q2,q3,cs,el,q4,q5,q6⟩:=q;obtain ⟨a1,a2,a3⟩:=q3 A rfl;simp only at a1;subst a1;have q':Wn ρ w ⟨rows A.n A.get,ty,some ⟨A.sz,A.n,.flat A.get⟩⟩ l:=.plain ⟨q0,q1,q2,fun B e=>by
    obtain rfl:=Ag e;exact ⟨rfl,a2,a3⟩,cs,el,q4,q5,q6⟩
   exact q'.pl (v4o hp) _
  .obtain ⟨_,e2⟩:=dP c l e;exact AJ ⟨l,e2,rfl⟩
  .show Yn (Wv .leaf 0 _) c=none;rw [Zv _ _ (by omega)];rfl
 have eB: ∀k o,w.heap[k]? =some o->(∃l0,ρ b=some l0/\l0.blk=k)\/H k=some o:=fun k o e=>by
  grind
 refine (hF A.sz A.n A.get r n' g hv hp hp' hsz H (ρ b) vals w hargs1 dY eB).mono fun e w' ⟨ρ1,u,m',nx,b1,he,hu,hmb,hr1,hfz1,eY,hos,htape,hout⟩=> ?_;have hgone: ∀k,(¬ ∃l,ρ b=some l/\l.blk=k)-> ∀o,w.heap[k]? =some o->w'.heap[k]? =some o/\ρ1.fz k=some o:=fun k hk o e=>by have h2:=hfz1 k o ((hH k hk).trans e);exact ⟨hr1.old k o h2,h2⟩
 let ρ':CE:=⟨fun c=>if c=next then ρ1 b1 else ρ c,ρ.fz,ρ.lp⟩
 have dG: ∀c l,ρ' c=some l->(c=next/\ρ1 b1=some l)\/(c≠next/\ρ c=some l):=fun c l e=>by
  grind
 have hnew:ρ' next=ρ1 b1:=AJ rfl
 have holdc: ∀c,c<next->ρ' c=ρ c:=fun c hc=>AC (by omega)
 have hle:ρ.le ρ':=⟨fun c l e=>by rw [holdc c (cZ.dom c l e)];exact e,fun _ _ e=>e,fun _ _ e=>e⟩
 have hm': ∀c,c≠next->Yn (Wv (Wv mem b none) next (some ⟨rows n' g,ty,some ⟨A.sz,n',.flat g⟩⟩)) c=if c=b then none else Yn mem c:=fun c hc=>by
  grind [Zv,Yk]
 have hmn:Yn (Wv (Wv mem b none) next (some ⟨rows n' g,ty,some ⟨A.sz,n',.flat g⟩⟩)) next=some ⟨rows n' g,ty,some ⟨A.sz,n',.flat g⟩⟩:=Yk _ _ _
 have hother: ∀c l,ρ c=some l->(Yn mem c).isSome =true->c≠b-> ¬ ∃l',ρ b=some l'/\l'.blk=l.blk:=fun c l e hs hcb ⟨l',e',hb⟩=>hcb (cZ.inj c b l l' e e' hb.symm hs (by rw [hm];rfl));have fH: ∀c l,ρ c=some l-> ∃o,w.heap[l.blk]? =some o:=fun c l e=>⟨_,BB (cZ.real c l e)⟩
 have hsepn: ∀l,ρ1 b1=some l->ρ1.fz l.blk=none:=fun l e=>hr1.sep b1 l e (by rw [hmb];rfl);have dO:Yv ρ' (.sla next A.sz 0 n' (.un A.sz)) u:=by
  cases hu with
  | sla _ _ _ _ _ l c h hc dA=>exact .sla next _ 0 _ _ l c (hnew.trans h) hc dA
  | slan _ _ _ _=>exact .slan _ _ _ _
 refine ⟨ρ',u,he,dO,?_,?_⟩
 .refine ⟨fun c l e=> ?_,fun c c' l l' e e' hbl hs hs'=> ?_,fun c l ab e hc=> ?_,fun k o e=> ?_,fun c l e hs=> ?_,fun c l e=> ?_,fun c hc=> ?_,⟨fun j l e=>Bo (cZ.ldom.1 j l e),cZ.ldom.2⟩⟩
  .rcases dG c l e with ⟨rfl,_⟩ | ⟨_,e⟩
   .omega
   .have:=cZ.dom c l e;omega
  .have clash: ∀c l l',c≠next->ρ c=some l->ρ1 b1=some l'->l.blk=l'.blk->(Yn (Wv (Wv mem b none) next (some ⟨rows n' g,ty,some ⟨A.sz,n',.flat g⟩⟩)) c).isSome =true->False:=fun c l l' hc e e' hbl hs=>by
    grind
   rcases dG c l e with ⟨h1,h2⟩ | ⟨h1,h2⟩ <;> rcases dG c' l' e' with ⟨h1',h2'⟩ | ⟨h1',h2'⟩
   .rw [h1,h1']
   .grind
   .grind
   .rw [hm' c h1] at hs;rw [hm' c' h1'] at hs';by_cases hcb:c=b
    .grind
    .by_cases hcb':c'=b
     .grind
     .rw [AC hcb] at hs;rw [AC hcb'] at hs';exact cZ.inj c c' l l' h2 h2' hbl hs hs'
  .rcases dG c l e with ⟨h1,h2⟩ | ⟨h1,h2⟩
   .subst h1;rw [hmn] at hc;obtain rfl:=Ag hc;have q:=(hr1.blk b1 l _ h2 hmb).pl (v4o hp') ρ';exact .plain ⟨(q.rows rfl).typ,q.n,q.tot,q.arr,(q.rows rfl).cells⟩
   .rw [hm' c h1] at hc;by_cases hcb:c=b
    .grind
    .rw [AC hcb] at hc;obtain ⟨o,ho⟩:=fH c l h2;refine (cZ.blk c l ab h2 hc).world hle ?_;rw [(hgone l.blk (hother c l h2 (by rw [hc];rfl) hcb) o ho).1,ho]
  .have h1:=hfz k o e;obtain ⟨h2,h3⟩:=hHs k o h1;exact (hgone k h3 o h2).1
  .rcases dG c l e with ⟨h1,h2⟩ | ⟨h1,h2⟩
   .cases hq:ρ.fz l.blk with
    | none=>rfl
    | some o=>
     grind
   .rw [hm' c h1] at hs;by_cases hcb:c=b
    .grind
    .rw [AC hcb] at hs;exact cZ.sep c l h2 hs
  .rcases dG c l e with ⟨h1,h2⟩ | ⟨h1,h2⟩
   .exact hr1.real b1 l h2
   grind
  .rw [hm' c (by omega),AC (by omega)];exact cZ.bd c (by omega)
 .refine ⟨hle,fun c hc=>holdc c hc,by omega,fun c hc hn cs ty2 hq=> ?_,fun k o hk hn=> ?_,fun c l hc e=> ?_,eY,hos,htape,hout,fun k _=>rfl⟩
  .grind
  .exact (hgone k (fun ⟨l,h1,h2⟩=>hn b l h1 hfl h2) o hk).1
  .rcases dG c l e with ⟨h1,h2⟩ | ⟨h1,h2⟩
   .rcases A7 l.blk w.heap.size with h | h
    .rcases eB l.blk _ (BB h) with ⟨l0,h3,h4⟩ | h3;all_goals grind
    grind
   grind
theorem y8v {S:CB} {R:CL} (hS:Zw P S) (hR:G5 P R) {lift:Bool} {f:FuncId} {args:zy} {cx:CP} {st st':St} {v:B9} (hcx:cx.floor<=st.next) (h:SE P S R lift f args cx st=some (v,st')) (hob:st'.ob=true)
  {vals:Array Value} (dC:Vg (Yv ρ) args vals.toList) {w:World} (cZ:CF ρ st.mem st.next w):
  (∃fn,P.funcs[f]? =some fn/\fn.body.isSome=true)/\Calls P f vals w fun e w'=> ∃ρ' u,e=.returned u/\Dc ρ cx.floor st st' v w ρ' u w':=by
 unfold SE at h;split at h
 .rename_i F hF;rcases Uw h with ⟨hca,h⟩ | ⟨_,h⟩
  .split at h
   .rename_i v' b hFa;obtain ⟨hc2,h⟩:=Zo h;have hc1:=Au.1 hca;simp only [Aq,Ae] at h;obtain ⟨st1,h1,rfl,rfl⟩:=h;obtain ⟨_,e2,e3,e4⟩:=Wu h1;obtain ⟨rfl,_⟩:=e4 hob;obtain ⟨hfn,dM⟩:=hS f _ hF;refine ⟨hfn,?_⟩;have hargs0:Vg (Yv ρ.bare) args vals.toList:=Vg.of dC.length fun i g1 g2=>Ja 3 _ _ (hc1 _ (AS g1)) (dC.get i g1 g2);refine (dM args v' hFa ρ.fz vals w hargs0 cZ.old cZ.ldom.2).mono fun e w' ⟨H',u,hle,hold,dK,he,hv,hb⟩=>⟨⟨ρ.f,H',ρ.lp⟩,u,he,Yv.mono (ρ:=DS H') (ρ':=⟨ρ.f,H',ρ.lp⟩) ⟨fun _ _ e=>(by cases e),fun _ _ e=>e,fun _ _ e=>(by cases e)⟩ hv,?_,?_⟩
    .rw [e2,e3];have hle':ρ.le ⟨ρ.f,H',ρ.lp⟩:=⟨fun _ _ e=>e,hle,fun _ _ e=>e⟩
     exact ⟨cZ.dom,cZ.inj,fun b l ab q1 q2=>(cZ.blk b l ab q1 q2).world hle' (hb.block _ (cZ.real b l q1)),hold,fun b l q hs=>(dK _ (cZ.real b l q)).trans (cZ.sep b l q hs),fun b l q=>AY (cZ.real b l q) hb.size,cZ.bd,cZ.ldom.1,cZ.ldom.2.mono hle⟩
    .rw [e2,e3];exact ⟨⟨fun _ _ e=>e,hle,fun _ _ e=>e⟩,fun _ _=>rfl,Ar _,fun _ _ _ _ _ h=>h,fun k o hk _=>by rw [hb.block k (AI.1 hk).1];exact hk,
      fun b l hb' hl=>by grind,hb.size,hb.os,hb.tape,hb.output,dK⟩
   .cases h
  .split at h;rename_i args' o hview;split at h
   .rename_i v' b hFa;obtain ⟨hc,h⟩:=Zo h;simp only [Ac] at hc;simp only [Aq,Ae] at h;obtain ⟨st1,h1,rfl,rfl⟩:=h;obtain ⟨_,e2,e3,e4⟩:=Wu h1;obtain ⟨hob1,_⟩:=e4 hob;simp only [Ac] at hob1;obtain ⟨ho,rfl⟩:=hob1;obtain ⟨hfn,dM⟩:=hS f _ hF;refine ⟨hfn,?_⟩;have hargs0:=x7z cZ dC hview ho hc.1;refine (dM args' v' hFa (fun k=>w.heap[k]?) vals w hargs0 (fun _ _ e=>e) (cZ.ldom.2.mono cZ.old)).mono fun e w' ⟨H',u,hle,hold,dK,he,hv,hb⟩=>⟨ρ,u,he,w8i hc.2 hv,?_,?_⟩
    .rw [e2,e3];exact ⟨cZ.dom,cZ.inj,fun b l ab q1 q2=>(cZ.blk b l ab q1 q2).world (CE.le_refl _) (hb.block _ (cZ.real b l q1)),fun k o q=>by rw [hb.block k (AI.1 (cZ.old k o q)).1];exact cZ.old k o q,cZ.sep,fun b l q=>AY (cZ.real b l q) hb.size,cZ.bd,cZ.ldom⟩
    .rw [e2,e3];exact ⟨CE.le_refl _,fun _ _=>rfl,Ar _,fun _ _ _ _ _ h=>h,fun k o hk _=>by grind,
      fun b l hb' hl=>by grind,hb.size,hb.os,hb.tape,hb.output,fun _ _=>rfl⟩
   .cases h
 .rename_i F hF;split at h
  .rename_i v0 b blk o hFa;split at h
   .rename_i ab hm;obtain ⟨hc,h⟩:=Zo h;simp only [Ac] at hc;simp only [Aq,Ae] at h;obtain ⟨st1,h1,rfl,rfl⟩:=h;obtain ⟨_,e2,e3,e4⟩:=Wu h1;obtain ⟨rfl,_⟩:=e4 hob;obtain ⟨hfn,dM⟩:=hS f _ hF;refine ⟨hfn,?_⟩;refine (dM args st.mem v0 b blk hFa (by rw [hm];rfl) ρ st.next cx.floor vals w (Al hc.2) dC cZ).mono fun e w' ⟨u,he,hv,hr,hev⟩=>⟨ρ,u,he,hv,?_,?_⟩
    .rw [e2,e3];exact hr
    .rw [e2,e3];exact hev
   .cases h
  .cases h
 .rename_i ty0 F hF;split at h
  .rename_i b sz n sz' r;split at h
   .rename_i cells ty A hm;obtain ⟨hc,h⟩:=Zo h;simp only [Ac] at hc;obtain ⟨⟨c0,c1,c2⟩,c4,c5,c6⟩:=hc;have c0:=Aj c0;split at h
    .rename_i n' g o hFa;simp only [Aq,Ae] at h;obtain ⟨st1,h1,rfl,rfl⟩:=h;obtain ⟨env,mem,next,orc,ob⟩:=st;simp only at h1 hm hcx cZ ⊢;obtain ⟨_,e2,e3,e4⟩:=Wu h1;obtain ⟨hob1,_⟩:=e4 hob;simp only [Ac] at hob1;obtain ⟨rfl,c3,hp,hp'⟩:=hob1;obtain ⟨hfn,dM⟩:=hS f _ hF;rw [<-c0] at dM;obtain rfl:=Aj c1;refine ⟨hfn,?_⟩;refine (v6x dM hm ⟨Aj c2,Aj c3⟩ c4 (Al c5) (Al c6) hFa hp hp' dC cZ).mono fun e w' ⟨ρ',u,he,hv,hr,hev⟩=>⟨ρ',u,he,hv,?_,?_⟩
     all_goals grind
    .cases h
   .cases h
  .cases h
 .split at h
  .rename_i fn hf;split at h
   .rename_i body hb;split at h
    .rename_i st2 hr;split at h
     .rename_i vs hvs;simp only [Ad,Ae] at h;obtain ⟨rfl,rfl⟩:=h;refine ⟨⟨fn,hf,by rw [hb];rfl⟩,?_⟩;intro cs
      let b:Frame:={(default:Frame) with fn:=f,kind:=.normal}
      have eZ:Frame.enter P f vals .normal =b.at {tmps:=vals++Array.replicate (fn.ntmps - vals.size) undef,defers:=[]} [.code body]:=by simp [Frame.enter,Frame.at,hf,hb,b]
      obtain ⟨ρ',a',todo',w',dR,hd,dD,dT,hev⟩:=hR _ _ _ _ (by
       cases lift with
       | false=>exact hcx
       | true=>exact Ar _) hr hob ρ {tmps:=vals++Array.replicate (fn.ntmps - vals.size) undef,defers:=[]} w b cs rfl (y7t dC fn.ntmps) cZ
      obtain ⟨u,hu,fF⟩:=z3o dD dT hvs;rw [<-eZ] at dR;refine ⟨.returned u,w',_,⟨ρ',u,rfl,hu,dT,?_⟩,dR,rfl,rfl,hd,rfl,fn,hf,fF⟩;refine hev.lower ?_
      grind
     .cases h
    .cases h
   .cases h
  .cases h
theorem x3z {S:CB} {R:CL} (hN:ER P) (hS:Zw P S) (hR:G5 P R) {lift:Bool} {o:Oper} {cx:CP} {st st':St} {v:B9} (hcx:cx.floor<=st.next)
  (h:Vv P S R lift o.op cx st=some (v,st')) (hob:st'.ob=true) {ev:Operand->B9} (hev: ∀x,x∈o.op.operands->ev x=st.eval x) {a:Act} (hr:Ks ρ ev a.eval o.op) {w:World} (cZ:CF ρ st.mem st.next w):
  No P o a w (Dc ρ cx.floor st st' v w):=by
 obtain ⟨dst,op,type,pos,after,guard⟩:=o;simp only at h hr hev
 replace hr:Ks ρ st.eval a.eval op:=fun x hx=>by rw [<-hev x hx];exact hr x hx
 clear hev;unfold Vv at h;split at h
 .rename_i t x;split at h
  .rename_i v' b st0 hv;obtain ⟨l1,l2,l3,l4⟩:=W8 hv;simp only [Aq,Ae] at h;obtain ⟨st1,h1,rfl,rfl⟩:=h;obtain ⟨e1,e2,e3,e4⟩:=Wu h1;obtain ⟨rfl,hob0⟩:=e4 hob;obtain ⟨z,hz,dB⟩:=y3k cZ (l4 hob0).1 (hr x (by simp [Op.operands]));exact .inl ⟨ρ,z,w,by simp [execOp,dB],hz,by grind,by rw [e2,e3,l2,l3];exact Ev.refl _ _ _ _ _ cZ.dom⟩
  .cases h
 .rename_i t;simp only [Aq,Ae] at h;obtain ⟨z,hz,rfl,rfl⟩:=h;obtain ⟨_,zv,_,_,hzr,hzv⟩:=We (ρ:=ρ) hz;refine .inl ⟨_,.pointer (some ⟨w.heap.size,0,none⟩),_,?_,RP cZ cx.floor z t zv.cells t (by rw [hzr.1];grind) hzr.2 _ _ fun ρ' hρ'=>.ptr _ 0 _ hρ'⟩;simp_all [execOp,Instr.alloc,newVar,newRow]
 .rename_i t x;obtain ⟨hbx,h⟩:=Zo h;simp only [Ad,Ae] at h;obtain ⟨rfl,rfl⟩:=h;have hc:=(hr x (by simp [Op.operands])).cells hbx;refine .inl ⟨_,.pointer (some ⟨w.heap.size,0,none⟩),_,?_,RP cZ cx.floor _ t (a.eval x).cells t (by rw [hc.1];grind) hc.2 _ _ fun ρ' hρ'=>.ptr _ 0 _ hρ'⟩;simp [execOp,Instr.box,newVar,newRow]
 .rename_i t len parts;obtain ⟨ρ',u,w',dB,hp,_,_⟩:=y2o cZ cx.floor h (XA parts.toList fun p hp=>hr p.2 (by grind [Op.operands]));refine .inl ⟨ρ',u,w',?_,hp⟩;have:(parts.map fun (i,x)=>(i,a.eval x))=(parts.toList.map fun p=>(p.1,a.eval p.2)).toArray :=by
   grind
  simp [execOp,this,dB]
 .rename_i t x y;split at h
  .rename_i b sz r fo hb;simp only [Aq,Ae] at h;obtain ⟨st1,h,rfl,rfl⟩:=h;have hx:=hr x (by simp [Op.operands]);rw [hb] at hx;obtain ⟨w',dB,hp⟩:=x3v cZ h hob hx (hr y (by simp [Op.operands]));exact .inr (.inl ⟨ρ,w',by simp [execOp,dB],hp⟩)
  .simp only [Aq,Ae] at h;obtain ⟨st1,h,rfl,rfl⟩:=h;obtain ⟨w',dB,hp,_,_⟩:=x6y cZ h (hr x (by simp [Op.operands])) (hr y (by simp [Op.operands]));exact .inr (.inl ⟨ρ,w',by simp [execOp,dB],hp⟩)
 .rename_i t l c;rcases Uw h with ⟨_,h⟩ | ⟨_,h⟩
  .rcases Uw h with ⟨_,h⟩ | ⟨_,h⟩
   .obtain ⟨ρ',u,w',dB,hp,_,_⟩:=z0l (st:=st.dropO) cZ cx.floor h (hr l (by simp [Op.operands])) (hr c (by simp [Op.operands]));exact .inl ⟨ρ',u,w',by simp [execOp,dB],hp.val,hp.rel,hp.ev⟩
   .obtain ⟨ρ',u,w',dB,hp⟩:=y2l (st:=st.dropO) cZ h hob (hr l (by simp [Op.operands])) (hr c (by simp [Op.operands]));exact .inl ⟨ρ',u,w',by simp [execOp,dB],hp.val,hp.rel,hp.ev⟩
  .obtain ⟨ρ',u,w',dB,hp,_,_⟩:=z0l cZ cx.floor h (hr l (by simp [Op.operands])) (hr c (by simp [Op.operands]));exact .inl ⟨ρ',u,w',by simp [execOp,dB],hp⟩
 .rename_i args argTypes;have dC:Vg (Yv ρ) (args.toList.map st.eval) (args.map a.eval).toList :=by rw [Bt];exact Vg.maps _ _ _ fun x hx=>hr x (by grind [Op.operands,Call.operands])
  unfold JA at h;rcases Uw h with ⟨_,h⟩ | ⟨hty,h⟩
  .cases h
  rw [Bool.not_eq_false'] at hty;rcases Uw h with ⟨_,h⟩ | ⟨_,h⟩
  .obtain ⟨ρ',u,w',dB,hp⟩:=y9m (type:=type) cZ h hob dC hty;exact .inl ⟨ρ',u,w',by simp_all [execOp,resolve,invoke,builtin],hp⟩
  split at h
  .rename_i hxs;obtain ⟨ρ',u,w',dB,hp,_⟩:=z7h (type:=type) cZ h hob (hxs ▸ dC) (by rw [hxs] at hty;exact hty);exact .inl ⟨ρ',u,w',by simp_all [execOp,resolve,invoke,builtin],hp⟩
  .obtain ⟨ρ',u,w',dB,hp,_,_⟩:=XF (type:=type) cZ cx.floor h dC hty;exact .inl ⟨ρ',u,w',by simp_all [execOp,resolve,invoke,builtin],hp⟩
 .rename_i args argTypes;have dC:Vg (Yv ρ) (args.toList.map st.eval) (args.map a.eval).toList :=by rw [Bt];exact Vg.maps _ _ _ fun x hx=>hr x (by grind [Op.operands,Call.operands])
  unfold Rk at h;split at h
  .rename_i b sz off len cap x xs hxs;obtain ⟨ρ',u,w',dB,hp⟩:=y3l (type:=type) (d:=.sla b sz off len cap) cZ h hob (hxs ▸ dC) fun u hu=>by
    cases hu with
    | sla _ _ _ _ _ l c hρ _ dA=>grind
    | slan=>grind
   exact .inl ⟨ρ',u,w',by simp_all [execOp,resolve,invoke,builtin],hp⟩
  .rename_i b sz off len x xs hxs;obtain ⟨ρ',u,w',dB,hp⟩:=y3l (type:=type) (d:=.slv b sz off len) cZ h hob (hxs ▸ dC) fun u hu=>by
    cases hu with
    | slv _ _ _ _ l c hρ dA=>grind
    | slve _ _ _ blk base c=>grind
    | slvn=>grind
   exact .inl ⟨ρ',u,w',by simp_all [execOp,resolve,invoke,builtin],hp⟩
  .obtain ⟨ρ',u,w',dB,hp,_,_⟩:=w4h (type:=type) cZ cx.floor h dC;exact .inl ⟨ρ',u,w',by simp_all [execOp,resolve,invoke,builtin],hp⟩
 .rename_i args argTypes;have dC:Vg (Yv ρ) (args.toList.map st.eval) (args.map a.eval).toList :=by rw [Bt];exact Vg.maps _ _ _ fun x hx=>hr x (by grind [Op.operands,Call.operands])
  obtain ⟨ρ',u,w',dB,hp,_,_⟩:=x7e (type:=type) cZ cx.floor h dC;exact .inl ⟨ρ',u,w',by simp_all [execOp,resolve,invoke,builtin],hp⟩
 .rename_i f args argTypes;split at h
  .rename_i g caps hg;have hf:=hr f (by simp [Op.operands,Call.operands]);rw [hg] at hf;generalize hw:a.eval f=u at hf;cases hf with
   | fn _ _ cvs hl hh=>
    have dC:Vg (Yv ρ) (args.toList.map st.eval++caps) (args.map a.eval++cvs).toList :=by rw [Array.toList_append,Bt];exact Vg.append (Vg.maps _ _ _ fun x hx=>hr x (by grind [Op.operands,Call.operands])) (Vg.of (by grind) fun i h1 h2=>by grind)
    obtain ⟨⟨fn,hfn,hb⟩,hc⟩:=y8v hS hR hcx h hob dC cZ;refine .inr (.inr ⟨g,args.map a.eval++cvs,?_,hc⟩);simp_all [R5,execOp,resolve,Deferred.ofValue,invoke]
  .rename_i g first hg
   have hf:=hr f (by simp [Op.operands,Call.operands]);rw [hg] at hf;generalize hw:a.eval f=u at hf;cases hf with
   | fnb _ _ cvs hl hh=>
    have dC:Vg (Yv ρ) (first++args.toList.map st.eval) (cvs++args.map a.eval).toList :=by rw [Array.toList_append,Bt];exact Vg.append (Vg.of (by grind) fun i h1 h2=>by grind) (Vg.maps _ _ _ fun x hx=>hr x (by grind [Op.operands,Call.operands]))
    obtain ⟨⟨fn,hfn,hb⟩,hc⟩:=y8v hS hR hcx h hob dC cZ;refine .inr (.inr ⟨g,cvs++args.map a.eval,?_,hc⟩);simp_all [R5,execOp,resolve,Deferred.ofValue,invoke]
  .cases h
 .cases h
end
section
variable {P:Program} {ρ:CE}
theorem Vy.congr {env env':T B9} {n:Nat} {tmps:Array Value} (h:Vy ρ env n tmps) (he: ∀t,T.get .undef env' t=T.get .undef env t):Vy ρ env' n tmps:=
 ⟨h.size,fun i=>by rw [he];exact h.get i,fun i hi=>by rw [he];exact h.out i hi⟩
theorem Vy.eval {st:St} {n:Nat} {a:Act} (h:Vy ρ st.env n a.tmps) (x:Operand):Yv ρ (st.eval x) (a.eval x):=by
 cases x with
 | tmp t=>exact h.get t
 | const v=>exact v5v v
 | global g=>exact .undef _
 | func f=>exact .fn f [] #[] rfl fun i h1 _=>by simp at h1
theorem Vy.put {env env':T B9} {n:Nat} {a:Act} (h:Vy ρ env n a.tmps) {dst:Option Tmp} {v:B9} {u:Value} (hv:Yv ρ v u)
  (hp:(dst=none/\env'=env)\/ ∃d,dst=some d/\d<n/\env'=T.set .undef env d v):Vy ρ env' n (a.put dst u).tmps :=by
 rcases hp with ⟨rfl,rfl⟩ | ⟨d,rfl,hd,rfl⟩
 .exact h
 .have hsz:=h.size;refine ⟨by simp [Act.put,hsz],fun i=> ?_,fun i hi=> ?_⟩
  .rw [T.get_set];by_cases hi:i=d
   .simp_all [Act.put]
   .rw [AC hi];have:=h.get i
    simpa [Act.put,Array.getElem?_setIfInBounds_ne (Ne.symm hi)] using this
  .rw [T.get_set,AC (Nat.ne_of_gt (AY hd hi))];exact h.out i hi
theorem Act.put_defers' (a:Act) (dst:Option Tmp) (v:Value):(a.put dst v).defers =a.defers:=by cases dst <;> rfl
theorem v2g {ops:Array Oper} {o:Oper} {cx:CP} {st st':St} {e:Bool} (h:HM ops o cx st=some (e,st')):st'.mem=st.mem/\st'.next=st.next/\(st'.ob=true->st.ob=true/\ ∀t,st'.tmp t=st.tmp t):=by
 unfold HM at h;split at h
 .grind
 .split at h
  .cases h
  .rename_i d hd;split at h
   .rename_i b hb;split at h;rename_i e1 st1 ht;split at h
    .rename_i st2 hp;simp only [Ad,Ae] at h;obtain ⟨_,rfl⟩:=h;obtain ⟨t1,t2,t3,t4⟩:=Sg ht;obtain ⟨p1,p2,p3,p4⟩:=Wt hp;refine ⟨p1.trans t2,p2.trans t3,fun ho=> ?_⟩;rw [p3] at ho;obtain ⟨rfl,ho⟩:=t4 ho;refine ⟨ho,fun t=> ?_⟩;rcases p4 with ⟨e,_⟩ | ⟨d',e,_,he⟩
     .cases e
     .obtain rfl:=Ag e;show T.get .undef st2.env t=T.get .undef st.env t;rw [he,t1,T.get_set];split
      .rename_i h;subst h;exact hb.symm
      .rfl
    .cases h
   all_goals grind
def Uf (ops:Array Oper) (o:Oper):Option Tmp:=o.guard.bind fun g=>(ops[g.1]?).bind (·.dst)
theorem w4c {ops:Array Oper} {o:Oper} {cx:CP} {st st':St} {e:Bool} (h:HM ops o cx st=some (e,st')) (ho:st'.ob=true) {tmps:Array Value} (hsz:tmps.size=cx.n)
  (hr: ∀d,Uf ops o=some d->Yv ρ (st.tmp d) (tmps.getD d undef)):Region.wanted o (yielded ops tmps)=e:=by
 unfold HM at h;unfold Region.wanted;split at h
 .grind
 .rename_i j want hg;rw [hg];simp only;split at h
  .cases h
  .rename_i d hd;have hrd:=hr d (by simp [Uf,hg,hd]);split at h
   .rename_i b hb;split at h;rename_i e1 st1 ht;split at h
    .rename_i st2 hp;simp only [Ad,Ae] at h;obtain ⟨rfl,rfl⟩:=h;obtain ⟨_,_,_,t4⟩:=Sg ht;obtain ⟨_,_,p3,p4⟩:=Wt hp;rw [p3] at ho;obtain ⟨rfl,_⟩:=t4 ho;rcases p4 with ⟨e,_⟩ | ⟨d',e,hlt,_⟩
     .cases e
     .obtain rfl:=Ag e;rw [hb] at hrd;have hlt':d<tmps.size:=(by grind);have dG:tmps.getD d undef=tmps[d]:=(by simp [hlt']);rw [dG] at hrd;have:yielded ops tmps j=some e1:=by unfold yielded;rw [hd];simp only [Option.bind_some,BB hlt'];generalize tmps[d]=u at hrd;cases hrd;rfl
      grind
    .cases h
   .rename_i hb;simp only [Ad,Ae] at h;obtain ⟨rfl,rfl⟩:=h;rw [hb] at hrd;have:yielded ops tmps j=none:=by
     unfold yielded;rw [hd];simp only [Option.bind_some];by_cases hlt:d<tmps.size
     .have dG:tmps.getD d undef=tmps[d]:=(by simp [hlt]);rw [dG] at hrd;rw [BB hlt];generalize tmps[d]=u at hrd;cases hrd;rfl
     grind
    grind
   .cases h
theorem v7z {cx:CP} {t:Nat} {kd:IntKind} {n:Int} {st st':St} (ht:st.tmp t=.int kd n) (h:st.conc cx t kd n=some st'):st'.mem=st.mem/\st'.next=st.next/\(st'.ob=true->st.ob=true/\ ∀t,st'.tmp t=st.tmp t):=by
 obtain ⟨env,mem,next,orc,ob⟩:=st;cases orc with
 | nil=>
  obtain rfl:=Ag h
  grind
 | cons o r=>
  unfold St.conc at h;obtain ⟨_,h⟩:=Zo h;obtain rfl:=Ag h;refine ⟨rfl,rfl,fun ho=> ?_⟩;simp only [Ac,Ao] at ho;refine ⟨ho.2,fun k=> ?_⟩;show T.get .undef (T.set .undef env t _) k=T.get .undef env k;rw [T.get_set];split
  .rename_i e;subst e;rw [<-ho.1];exact ht.symm
  .rfl
theorem v2l {o:Oper} {cx:CP} {st st':St} (h:u5t o cx st=some st'):st'.mem=st.mem/\st'.next=st.next/\(st'.ob=true->st.ob=true/\ ∀t,st'.tmp t=st.tmp t):=by
 grind [u5t,v7z]
theorem Kn {ops:Array Oper} {o:Oper} {cx:CP} {st st':St} {e:Bool} (h:GD ops o cx st=some (e,st')): ∃st1,HM ops o cx st=some (e,st1)/\st'.mem=st1.mem/\st'.next=st1.next/\(st'.ob=true->st1.ob=true/\ ∀t,st'.tmp t=st1.tmp t)/\(Xb o.op=.alloc \/e=false->st'=st1):=by
 unfold GD at h;split at h
 .rename_i st1 h1;split at h
  .rename_i st2 h2;simp only [Ad,Ae] at h;obtain ⟨rfl,rfl⟩:=h;obtain ⟨c1,c2,c3⟩:=v2l h2;refine ⟨st1,h1,c1,c2,c3,fun hk=> ?_⟩;rcases hk with hk | hk
   .unfold u5t at h2;split at h2
    .rename_i ho;rw [ho] at hk;cases hk
    .rename_i ho;rw [ho] at hk;cases hk
    grind
   .cases hk
  .cases h
 grind
theorem Wc {ops:Array Oper} {o:Oper} {cx:CP} {st st':St} {e:Bool} (h:GD ops o cx st=some (e,st')):st'.mem=st.mem/\st'.next=st.next/\(st'.ob=true->st.ob=true/\ ∀t,st'.tmp t=st.tmp t):=by
 grind [Kn,v2g]
theorem Uv {ops:Array Oper} {o:Oper} {cx:CP} {st st':St} {e:Bool} (h:GD ops o cx st=some (e,st')) (ho:st'.ob=true) {tmps:Array Value} (hsz:tmps.size=cx.n)
  (hg: ∀d,Uf ops o=some d->Yv ρ (st.tmp d) (tmps.getD d undef)):Region.wanted o (yielded ops tmps)=e:=by
 obtain ⟨st1,h1,_,_,c3,_⟩:=Kn h;exact w4c h1 (c3 ho).1 hsz hg
structure t0g (P:Program) (cx:CP) (o:Oper) (st st':St) (v:B9):Prop where
 ob:st.ob=true
 does: ∀(ρ:CE) (a:Act) (w:World) (ev:Operand->B9),(∀x,x∈o.op.operands->ev x=st.eval x)->Ks ρ ev a.eval o.op->CF ρ st.mem st.next w->No P o a w (Dc ρ cx.floor st st' v w)
 calm:(Xb o.op=.pure \/Xb o.op=.read)-> ∀(ρ:CE) (a:Act) (w:World) (ev:Operand->B9) (mem:CJ) (next:Nat),(∀x,x∈o.op.operands->ev x=st.eval x)->Ks ρ ev a.eval o.op->CF ρ mem next w->
  (∀t y b ab,o.op=.load t y->Eh o.op ev=some b->Yn st.mem b=some ab->Yn mem b=some ab)-> ∃u,(execOp a.eval o).run P w=.ok (.value u) w/\Yv ρ v u
theorem v6m {op:Op} {ev:Operand->B9} {x:B9×Bool} (h:Qc P op ev=some x):Xb op=.pure :=by
 cases op with
 | call c=>
  obtain ⟨callee,args,argTypes⟩:=c;cases callee with
  | builtin b=>cases b <;> first | rfl | (simp [Qc,XH] at h)
  | value f=>simp [Qc] at h
  | invoke r m=>rfl
 | _=>first | rfl | (simp [Qc] at h;done)
theorem w1n {S:CB} {R:CL} (hN:ER P) (hS:Zw P S) (hRI:Er R) (hR:G5 P R) {lift:Bool} {o:Oper} {cx:CP} {st st':St} (hcx:cx.floor<=st.next) (h:N4 P S R lift o cx st=some st'):
  ∃v stm,stm.put cx o.dst v=some st'/\stm.env=st.env/\Xd cx.floor st stm/\((Xb o.op=.pure \/Xb o.op=.read)->stm.mem=st.mem/\stm.next=st.next)/\
   (lift=true->Xb o.op=.call -> ∀b,b<st.next->Ec S o.op st.eval≠some b->Yn stm.mem b=Yn st.mem b)/\
   (Xb o.op=.chain -> ∀b,b<st.next->EF o.op st.eval≠some b->Yn stm.mem b=Yn st.mem b)/\
   (Xb o.op=.alloc ->v=.ptr st.next 0/\ ∃t z,o.op=.alloc t/\EZ P t=some z/\stm=Cr st z t)/\
   (st'.ob=true->t0g P cx o st stm v):=by
 unfold N4 at h;split at h
 .rename_i v b hp;have hk:=v6m hp;split at h
  .rename_i st1 h1;obtain ⟨e1,e2,e3,e4⟩:=Wu h1;refine ⟨v,st1,h,e1,Xd.same e2 e3 fun x=>(e4 x).2,fun _=>⟨e2,e3⟩,(fun _ hc=>by grind),(fun hc=>by grind),(fun hc=>by grind),fun ho=> ?_⟩;obtain ⟨_,_,p3,_⟩:=Wt h;rw [p3] at ho;obtain ⟨rfl,ho1⟩:=e4 ho;refine ⟨ho1,fun ρ a w ev hev hr cZ=> ?_,fun _ ρ a w ev mem next hev hr cZ hag=> ?_⟩
   .have hr':Ks ρ st.eval a.eval o.op:=fun x hx=>by rw [<-hev x hx];exact hr x hx
    obtain ⟨u,hu,dB⟩:=y8o hp rfl hr';exact .inl ⟨ρ,u,w,dB w,hu,by grind,by rw [e2,e3];exact Ev.refl _ _ _ _ _ cZ.dom⟩
   .have hr':Ks ρ st.eval a.eval o.op:=fun x hx=>by rw [<-hev x hx];exact hr x hx
    grind [y8o]
  .cases h
 .split at h
  .rename_i v stm he;obtain ⟨eO,dD⟩:=y8t hRI he;refine ⟨v,stm,h,dD,eO,fun hk=> ?_,fun hl hk b hb hw=> ?_,fun hk b hb hn=>x7d hk hb hn he,fun hk=> ?_,fun ho=> ?_⟩
   .obtain ⟨dst,op,type,pos,after,guard⟩:=o;simp only at hk he;cases op with
    | load t x=>
     simp only [Vv] at he;split at he
     .rename_i hl;obtain ⟨l1,l2,l3,l4⟩:=W8 hl;simp only [Aq,Ae] at he
      grind [Wu]
     .cases he
    | call c=>
     obtain ⟨callee,args,argTypes⟩:=c;cases callee with
     | builtin b=>cases b <;> first | (simp [Vv] at he;done) | (simp [Xb] at hk;done)
     | value f=>simp [Xb] at hk
     | invoke r m=>simp [Vv] at he
    | _=>first | (simp [Vv] at he;done) | (simp [Xb] at hk;done)
   .obtain ⟨dst,op,type,pos,after,guard⟩:=o;simp only at hk he;cases op with
    | call c=>
     obtain ⟨callee,args,argTypes⟩:=c;cases callee with
     | builtin b=>cases b <;> first | (simp [Vv] at he;done) | (simp [Xb] at hk;done)
     | value f=>
      grind [Vv,x7f,Ec]
     | invoke r m=>simp [Vv] at he
    | _=>first | (simp [Vv] at he;done) | (simp [Xb] at hk;done)
   .obtain ⟨dst,op,type,pos,after,guard⟩:=o;simp only at hk he;cases op with
    | alloc t=>
     simp only [Vv,Aq,Ae] at he
     grind
    | call c=>
     obtain ⟨callee,args,argTypes⟩:=c;cases callee with
     | builtin b=>cases b <;> first | (simp [Vv] at he;done) | (simp [Xb] at hk;done)
     | value f=>simp [Xb] at hk
     | invoke r m=>simp [Vv] at he
    | _=>first | (simp [Vv] at he;done) | (simp [Xb] at hk;done)
   .obtain ⟨_,_,p3,_⟩:=Wt h;rw [p3] at ho;refine ⟨eO.ob ho,fun ρ a w ev hev hr cZ=>x3z hN hS hR hcx he ho hev hr cZ,fun hk ρ a w ev mem next hev hr cZ hag=> ?_⟩;obtain ⟨dst,op,type,pos,after,guard⟩:=o;simp only at hk he hev hr hag;cases op with
    | load t x=>
     simp only [Vv] at he;split at he
     .rename_i v' bb st0 hv;obtain ⟨l1,l2,l3,l4⟩:=W8 hv;simp only [Aq,Ae] at he;obtain ⟨st1,h1,rfl,rfl⟩:=he;obtain ⟨_,_,_,e4⟩:=Wu h1;obtain ⟨rfl,hob0⟩:=e4 ho;have hv:=(l4 hob0).1;have hx:x∈(Op.load t x).operands :=(by simp [Op.operands]);have hl:NW P mem t (ev x)=some (v',true):=by
       rw [hev x hx];have hag': ∀b ab,Eh (.load t x) st.eval=some b->Yn st.mem b=some ab->Yn mem b=some ab:=fun b ab q1 q2=>hag t x b ab rfl (by grind [Eh]) q2;unfold NW at hv ⊢;split at hv
       .grind [Eh]
       .rename_i y hy;unfold Na at hv ⊢
        grind [Eh]
      obtain ⟨z,hz,dB⟩:=y3k cZ hl (hr x hx);simp_all [execOp]
     .cases he
    | call c=>
     obtain ⟨callee,args,argTypes⟩:=c;cases callee with
     | builtin b=>cases b <;> first | (simp [Vv] at he;done) | (simp [Xb] at hk;done)
     | value f=>simp [Xb] at hk
     | invoke r m=>simp [Vv] at he
    | _=>first | (simp [Vv] at he;done) | (simp [Xb] at hk;done)
  .cases h
theorem y6w {S:CB} {R:CL} {ops:Array Oper} {cx:CP} {x:Bool×Oper} {l:List (Bool×Oper)} {st:St}:ZY P S R ops cx (x::l) st=(HW P S R ops cx x st).bind (ZY P S R ops cx l):=by
 grind [ZY,HW]
theorem No.wp2 {o:Oper} {a:Act} {w:World} {K:CE->Value->World->Prop} {next:Act->World->Prop} {Q:Exit->Act->World->Prop} (h:No P o a w K)
  (hk: ∀ρ' u w',K ρ' u w'->((execOp a.eval o).run P w=.ok (.value u) w'\/ ∀u w',(execOp a.eval o).run P w≠ .ok (.value u) w')->next (a.put o.dst u) w'):o.wp P a w next Q:=by
 unfold Oper.wp;rcases h with ⟨ρ',u,w',e,k⟩ | ⟨ρ',w',e,k⟩ | ⟨f,args,e,hc⟩
 .have:=hk _ _ _ k (.inl e);rw [e];exact this
 .have:=hk _ _ _ k (.inr fun u w' e2=>by grind);rw [e];exact this
 .rw [e];exact hc.mono fun e' w' ⟨ρ',u,he,k⟩=>by
   grind
theorem w7u (m:CJ) (sz:Nat) (zero:zy) (ut:TypeDesc) (b o n:Nat) (c:FO):ZL m sz zero ut (.sl b o n c)=none:=by cases ut <;> rfl
theorem v8h {cx:CP} {st:St} {ts:List TypeId} {s:B9} {b o n:Nat} {c:FO} {r:zy}:HE P cx st ts (s::.sl b o n c::r)=none:=by
 unfold HE
 grind [w7u,unN]
theorem v0w {S:CB} {R:CL} {lift:Bool} {o:Oper} {cx:CP} {st st':St} (h:N4 P S R lift o cx st=some st') (hob:st'.ob=true) {b:Nat} (hk:Ed o.op st.eval st.mem=some b) {a:Act} {w:World} (hr:Ks ρ st.eval a.eval o.op) (cZ:CF ρ st.mem st.next w):
  ∃u w',(execOp a.eval o).run P w=.ok (.value u) w'/\ ∀ab l,Yn st.mem b=some ab->ρ b=some l->Wn ρ w' ab l:=by
 obtain ⟨dst,op,type,pos,after,guard⟩:=o;simp only at hk hr;unfold Ed at hk;split at hk
 .rename_i args argTypes;have dC:Vg (Yv ρ) (args.toList.map st.eval) (args.map a.eval).toList :=by rw [Bt];exact Vg.maps _ _ _ fun x hx=>hr x (by grind [Op.operands,Call.operands])
  have h:(match JA P cx st argTypes.toList (args.toList.map st.eval) with
   | some (v,st2)=>st2.put cx dst v
   | none=>none)=some st':=h
  split at h
  .rename_i v st2 h2;have ho2:st2.ob=true:=by
    obtain ⟨_,_,p3,_⟩:=Wt h
    grind
   unfold JA at h2;rcases Uw h2 with ⟨_,h2⟩ | ⟨hty,h2⟩
   .cases h2
   rw [Bool.not_eq_false'] at hty;split at hk
   .rename_i b' sz off len z b2 o2 n2 c2 r he;obtain rfl:=Ag hk;rw [he] at h2 dC;rcases Uw h2 with ⟨_,h2⟩ | ⟨_,h2⟩
    .rw [v8h] at h2;cases h2
    .obtain ⟨ρ',u,w',dB,_,hq⟩:=z7h (type:=type) cZ h2 ho2 dC (by rw [he] at hty;exact hty);exact ⟨u,w',by simp_all [execOp,resolve,invoke,builtin],fun ab l k1 k2=>hq _ _ _ _ _ _ _ _ rfl k1 k2⟩
   .rename_i b' off len z b2 o2 n2 c2 r he;split at hk
    .rename_i blk hm;obtain ⟨hc,hk⟩:=Zo hk;obtain rfl:=Ag hk;simp only [Ac] at hc;rw [he] at h2 dC;rcases Uw h2 with ⟨_,h2⟩ | ⟨_,h2⟩
     .rw [v8h] at h2;cases h2
     .obtain ⟨ρ',u,w',dB,_,_,hq⟩:=XF (type:=type) cZ cx.floor h2 dC (by rw [he] at hty;exact hty);refine ⟨u,w',by simp_all [execOp,resolve,invoke,builtin],fun ab l k1 k2=> ?_⟩;rw [hm] at k1;obtain rfl:=Ag k1;exact hq.1 _ _ _ _ _ _ _ _ _ _ _ rfl (Al hc.2) hm (Aj hc.1) k2
    .cases hk
   .cases hk
  .cases h
 .cases hk
structure t0i (S:CB) (P:Program) (ops:Array Oper) (cx:CP) (x:Bool×Oper) (st st':St):Prop where
 inv:Xd cx.floor st st'
 stay:(Xb x.2.op=.pure \/Xb x.2.op=.read)->st'.mem=st.mem/\st'.next=st.next
 lift:st'.ob=true->x.1=true->Xb x.2.op=.call -> ∀b,b<st.next->Ec S x.2.op st.eval≠some b->Yn st'.mem b=Yn st.mem b
 foot:st'.ob=true->Xb x.2.op=.chain -> ∀b,b<st.next->EF x.2.op st.eval≠some b->Yn st'.mem b=Yn st.mem b
 alloc:Xb x.2.op=.alloc ->x.2.guard=none-> ∃t z,x.2.op=.alloc t/\EZ P t=some z/\st'.mem=(Cr st z t).mem /\st'.next=(Cr st z t).next /\ ∀d,x.2.dst=some d->st'.tmp d=.ptr st.next 0
 slot: ∀d,x.2.dst=some d->d<cx.n
 other:st'.ob=true-> ∀t,x.2.dst≠some t->st'.tmp t=st.tmp t
 does:st'.ob=true-> ∀(ρ:CE) (a:Act) (w:World) (ev:Operand->B9),a.tmps.size=cx.n->(∀y,y∈x.2.op.operands->ev y=st.eval y)->(∀d,Uf ops x.2=some d->Yv ρ (st.tmp d) (a.tmps.getD d undef))->Ks ρ ev a.eval x.2.op->CF ρ st.mem st.next w->
  ∀(K:Act->World->Prop) (Q:Exit->Act->World->Prop),(∀ρ' u w',(∀d,x.2.dst=some d->Yv ρ' (st'.tmp d) u)->CF ρ' st'.mem st'.next w'->Ev ρ ρ' cx.floor st.mem st.next st'.mem st'.next w w'->(∀b ab l,Ed x.2.op st.eval st.mem=some b->Yn st.mem b=some ab->ρ b=some l->Wn ρ w' ab l)->K (a.put x.2.dst u) w')->
   if Region.wanted x.2 (yielded ops a.tmps) then x.2.wp P a w K Q else K (a.put x.2.dst undef) w
 calm:st'.ob=true->(Xb x.2.op=.pure \/Xb x.2.op=.read)-> ∀(ρ:CE) (a:Act) (w:World) (ev:Operand->B9) (mem:CJ) (next:Nat),a.tmps.size=cx.n->(∀y,y∈x.2.op.operands->ev y=st.eval y)->(∀d,Uf ops x.2=some d->Yv ρ (st.tmp d) (a.tmps.getD d undef))->Ks ρ ev a.eval x.2.op->CF ρ mem next w->
  (∀t y b ab,x.2.op=.load t y->Eh x.2.op ev=some b->Yn st.mem b=some ab->Yn mem b=some ab)-> ∀(K:Act->World->Prop) (Q:Exit->Act->World->Prop),(∀u,(∀d,x.2.dst=some d->Yv ρ (st'.tmp d) u)->K (a.put x.2.dst u) w)->
   if Region.wanted x.2 (yielded ops a.tmps) then x.2.wp P a w K Q else K (a.put x.2.dst undef) w
theorem y9x {S:CB} {R:CL} (hN:ER P) (hS:Zw P S) (hRI:Er R) (hR:G5 P R) {ops:Array Oper} {x:Bool×Oper} {cx:CP} {st st':St} (hcx:cx.floor<=st.next) (h:HW P S R ops cx x st=some st'):
  t0i S P ops cx x st st':=by
 unfold HW at h;split at h
 .cases h
 .rename_i st1 hw;obtain ⟨w1,w2,w3⟩:=Wc hw;obtain ⟨v,stm,hp,dD,eO,hstay,hlift,hfoot,halloc,hdo⟩:=w1n hN hS hRI hR (by grind) h;obtain ⟨p1,p2,p3,p4⟩:=Wt hp;have eP: ∀d,x.2.dst=some d->st'.tmp d=v:=fun d hd=>by
   rcases p4 with ⟨e,_⟩ | ⟨d',e,_,he⟩
   .grind
   .rw [hd] at e;obtain rfl:=Ag e;show T.get .undef st'.env d=v;rw [he,T.get_set,AJ rfl]
  have hi1:Xd cx.floor st st1:=Xd.same w1 w2 fun ho=>(w3 ho).1;have hi2:Xd cx.floor stm st':=Xd.same p1 p2 fun ho=>by grind
  refine ⟨(hi1.trans eO).trans hi2,fun hk=> ?_,fun ho hl hk b hb hn=> ?_,fun ho hk b hb hn=> ?_,fun hk hg=> ?_,fun d hd=> ?_,fun ho t ht=> ?_,fun ho ρ a w ev hsz hev hgr hr cZ K Q hK=> ?_,fun ho hk ρ a w ev mem next hsz hev hgr hr cZ hag K Q hK=> ?_⟩
  .grind
  .have ho1:st1.ob=true:=eO.ob (by grind);have dK:st1.eval=st.eval:=by
    funext y
    cases y with
    | tmp t=>exact (w3 ho1).2 t
    | _=>rfl
   grind
  .have ho1:st1.ob=true:=eO.ob (by grind);have dK:st1.eval=st.eval:=by
    funext y
    cases y with
    | tmp t=>exact (w3 ho1).2 t
    | _=>rfl
   grind
  .grind [Kn,HM]
  .grind
  .have ho1:st1.ob=true:=eO.ob (by grind);rw [<-(w3 ho1).2 t];show T.get .undef st'.env t=T.get .undef st1.env t
   grind [T.get_set]
  .have ho1:st1.ob=true:=eO.ob (by grind);have dK:=(w3 ho1).2;have eK: ∀y,st1.eval y=st.eval y:=fun y=>by cases y <;> first | rfl | exact dK _
   rw [Uv hw ho1 hsz hgr,AJ rfl];refine ((hdo ho).does ρ a w ev (fun y hy=>by grind) hr (by grind)).wp2 fun ρ' u w' hpost dB=> ?_;have he:=hpost.ev;rw [w1,w2] at he;refine hK ρ' u w' (fun d hd=>by rw [eP d hd];exact hpost.val) (by rw [p1,p2];exact hpost.rel) (by grind) fun b ab l k1 k2 k3=> ?_;have hr':Ks ρ st1.eval a.eval x.2.op:=fun y hy=>by rw [eK y,<-hev y hy];exact hr y hy
   have e1:st1.eval=st.eval:=funext eK
   grind [v0w]
  .have ho1:st1.ob=true:=eO.ob (by grind);have dK:=(w3 ho1).2;have eK: ∀y,st1.eval y=st.eval y:=fun y=>by cases y <;> first | rfl | exact dK _
   rw [Uv hw ho1 hsz hgr,AJ rfl];obtain ⟨u,dB,hu⟩:=(hdo ho).calm hk ρ a w ev mem next (fun y hy=>by grind) hr cZ (fun t y b ab q1 q2 q3=>hag t y b ab q1 q2 (by grind))
   unfold Oper.wp;rw [dB];exact hK u fun d hd=>by grind
 .rename_i st1 hw;obtain ⟨w1,w2,w3⟩:=Wc hw;obtain ⟨p1,p2,p3,p4⟩:=Wt h;have eP: ∀d,x.2.dst=some d->st'.tmp d=.tup []:=fun d hd=>by
   rcases p4 with ⟨e,_⟩ | ⟨d',e,_,he⟩
   .grind
   .rw [hd] at e;obtain rfl:=Ag e;show T.get .undef st'.env d=.tup [];rw [he,T.get_set,AJ rfl]
  refine ⟨Xd.same (p1.trans w1) (p2.trans w2) fun ho=>(w3 (by grind)).1,fun _=>⟨p1.trans w1,p2.trans w2⟩,fun _ _ _ b _ _=>by rw [p1,w1],fun _ _ b _ _=>by rw [p1,w1],fun hk hg=> ?_,fun d hd=> ?_,fun ho t ht=> ?_,fun ho ρ a w ev hsz hev hgr hr cZ K Q hK=> ?_,fun ho hk ρ a w ev mem next hsz hev hgr hr cZ hag K Q hK=> ?_⟩
  .grind [Kn,HM]
  .grind
  .rw [<-(w3 (by grind)).2 t];show T.get .undef st'.env t=T.get .undef st1.env t
   grind [T.get_set]
  .have ho1:st1.ob=true:=by grind
   rw [Uv hw ho1 hsz hgr,AC (by simp)];refine hK ρ undef w (fun d hd=>by rw [eP d hd];exact .tup [] #[] rfl fun i h1 _=>by simp at h1) ?_ ?_ fun b ab l _ k2 k3=>cZ.blk b l ab k3 k2
   .grind
   .rw [p1,p2,w1,w2];exact Ev.refl _ _ _ _ _ cZ.dom
  .have ho1:st1.ob=true:=by grind
   rw [Uv hw ho1 hsz hgr,AC (by simp)];exact hK undef fun d hd=>by rw [eP d hd];exact .tup [] #[] rfl fun i h1 _=>by simp at h1
def Ir (D:List Deferred) (ρ:CE) (cx:CP) (st st':St) (w:World):Exit->Act->World->Prop:=fun e a' w'=>
 e=.normal /\a'.defers=D/\ ∃ρ',Vy ρ' st'.env cx.n a'.tmps/\CF ρ' st'.mem st'.next w'/\Ev ρ ρ' cx.floor st.mem st.next st'.mem st'.next w w'
def u1t (ρ:CE) (k:Nat) (o:Obj):CE:=⟨ρ.f,fun j=>if j=k then some o else ρ.fz j,ρ.lp⟩
theorem x2o {k:Nat} {o:Obj} (h:ρ.fz k=none):ρ.le (u1t ρ k o):=
 ⟨fun _ _ e=>e,fun j o' e=>by
  show (if j=k then some o else ρ.fz j)=some o'
  grind,fun _ _ e=>e⟩
theorem CF.froze {mem:CJ} {next:Nat} {w:World} (h:CF ρ mem next w) (vs:Array Value) (el:TypeId):
  CF (u1t ρ w.heap.size (.cells vs el)) mem next {w with heap:=w.heap.push (.cells vs el)}:=by
 have hle:=x2o (o:=.cells vs el) (h.hold w.heap.size (Ar _));have push: ∀k,k<w.heap.size->(w.heap.push (.cells vs el))[k]? =w.heap[k]? :=fun k hk=>by
  grind
 refine ⟨h.dom,h.inj,fun b l ab e hm=> ?_,fun k o e=> ?_,fun b l e hs=> ?_,fun b l e=> ?_,h.bd,h.ldom.1,h.ldom.2.mono hle.2.1⟩
 .exact (h.blk b l ab e hm).world hle (push _ (h.real b l e))
 .have e:(if k=w.heap.size then some (.cells vs el) else ρ.fz k)=some o:=e;show (w.heap.push (.cells vs el))[k]? =some o;by_cases hk:k=w.heap.size
  .grind
  .rw [AC hk] at e;have:=h.old k o e
   grind
 .have:=h.real b l e;show (if l.blk=w.heap.size then _ else ρ.fz l.blk)=none;rw [AC (by omega)];exact h.sep b l e hs
 .have:=h.real b l e
  grind
theorem Ev.froze {mem:CJ} {next:Nat} {w:World} (h:CF ρ mem next w) (floor:Nat) (m:CJ) (vs:Array Value) (el:TypeId):
  Ev ρ (u1t ρ w.heap.size (.cells vs el)) floor m next m next w {w with heap:=w.heap.push (.cells vs el)}:=by
 have hle:=x2o (o:=.cells vs el) (h.hold w.heap.size (Ar _));refine ⟨hle,fun _ _=>rfl,Ar _,fun _ _ _ _ _ q=>q,fun k o q _=> ?_,fun b l hb hl=> ?_,?_,rfl,rfl,rfl,fun k hk=> ?_⟩
 .grind
 .have:=h.dom b l hl;omega
 .grind
 .show (if k=w.heap.size then _ else ρ.fz k)=ρ.fz k
  grind
theorem w4g {w:World} {t:TypeId} {len:Nat} {ps:List (Nat×B9)} {qs:List (Nat×Value)} {v:B9} (hb:t0c P t len ps=some v) (hp:Iz ρ ps qs) (hf:ρ.fz w.heap.size=none):
  ∃u vs el,(Instr.buildSlice t len qs.toArray).run P w=.ok u {w with heap:=w.heap.push (.cells vs el)}/\Yv (u1t ρ w.heap.size (.cells vs el)) v u:=by
 unfold t0c at hb;split at hb
 .rename_i e hu;split at hb
  .rename_i i zero hi hz;obtain ⟨hc,hb⟩:=Zo hb;simp only [Ac] at hc;obtain ⟨⟨hl1,hs1⟩,hle,hzl⟩:=hc;have hl1:=Al hl1;have hs1:=Al hs1;have hle:=Al hle;have hzl:=Aj hzl;split at hb
   .rename_i cells dE;obtain ⟨hc,hb⟩:=Zo hb;simp only [Ac] at hc;obtain ⟨hn,hpf⟩:=hc;have hn:=Aj hn;obtain rfl:=Ag hb;obtain ⟨_,z,_,_,hzr,hzv⟩:=We (ρ:=ρ) hz;have eE:=Rh hzr len (len*i.size) (by rw [hzl]);obtain ⟨arr,h1,h2⟩:=Qd dE eE hp;have hsz:arr.size=len*i.size:=(by rw [<-h2.1,hn]);have hgt': ¬2 ^ 24<len*i.size:=(by omega);have fD:0<len*i.size:=Nat.mul_pos (by omega) (by omega);have h0: ¬len*i.size=0:=(by omega);refine ⟨.slice (some ⟨w.heap.size,0,none⟩) len len,arr,e,?_,?_⟩
    .have hsz0: ¬i.size=0:=(by omega);simp [Instr.buildSlice,run_underlying hu,Yw hi,h0,hsz0,hzv,h1,newRow,hgt']
    .have hin: ∀a b,a<len->b<i.size->a*i.size+b<cells.length:=fun a b ha hb=>by
      have:(a+1)*i.size<=len*i.size:=AB _ ha
      grind
     have dG: ∀a,a<len->((cells.drop (a*i.size)).take i.size).length =i.size:=fun a ha=>by
      have:(a+1)*i.size<=len*i.size:=AB _ ha
      grind
     refine .dat len _ w.heap.size 0 i.size len (fun a b=>arr.getD (a*i.size+b) undef) (Ar _) (fun a ha=>dG a ha) (fun a b ha hb=> ?_) (fun a b ha hb=> ?_)
     .have hb':b<i.size:=(by grind);have h3:=hin a b ha hb';have e1:((cells.drop (a*i.size)).take i.size)[b]=cells[a*i.size+b]:=by
       grind
      rw [e1];have h4:a*i.size+b<arr.size:=(by grind);have e2:arr.getD (a*i.size+b) undef=arr[a*i.size+b]:=(by simp [h4]);rw [e2];have h5:=Ja 6 _ _ (Au.1 hpf _ (AS h3)) (h2.2 _ h3 h4);exact h5.mono (x2o (o:=.cells arr e) hf).bare
     .have h3:=hin a b ha hb;have h4:a*i.size+b<arr.size:=(by grind);refine ⟨arr,e,(0,0),?_,?_⟩
      .show (if w.heap.size=w.heap.size then some (Obj.cells arr e) else _)=_
       grind
      .simp [h4]
   .cases hb
  .cases hb
 .cases hb
structure u5u (S:CB) (z:Nat) (P:Program) (ops:Array Oper) (cx:CP) (x:Bool×Oper) (st st':St):Prop where
 inv:Xd cx.floor st st'
 stay:(Xf z x.2.op=.pure \/Xf z x.2.op=.read \/Xf z x.2.op=.lit)->st'.mem=st.mem/\st'.next=st.next
 lift:st'.ob=true->x.1=true->Xf z x.2.op=.call -> ∀b,b<st.next->Ec S x.2.op st.eval≠some b->Yn st'.mem b=Yn st.mem b
 foot:st'.ob=true->Xf z x.2.op=.chain -> ∀b,b<st.next->EF x.2.op st.eval≠some b->Yn st'.mem b=Yn st.mem b
 fresh:st'.ob=true->(Xf z x.2.op=.alloc \/Xf z x.2.op=.birth)->x.2.guard=none-> ∃cells ty,st'.mem=Wv st.mem st.next (some ⟨cells,ty,none⟩)/\st'.next=st.next+1/\
  ∀(ρ:CE) (a:Act) (w:World) (ev:Operand->B9),(∀y,y∈x.2.op.operands->ev y=st.eval y)->Ks ρ ev a.eval x.2.op->
   ∃u vs el,el=ty/\Vo ρ cells vs/\(execOp a.eval x.2).run P w=.ok (.value u) {w with heap:=w.heap.push (.cells vs el)}/\ ∀ρ':CE,ρ' st.next=some ⟨w.heap.size,0,cells.length,vs.size⟩-> ∀d,x.2.dst=some d->Yv ρ' (st'.tmp d) u
 slot: ∀d,x.2.dst=some d->d<cx.n
 other:st'.ob=true-> ∀t,x.2.dst≠some t->st'.tmp t=st.tmp t
 does:st'.ob=true->(Xf z x.2.op=.chain \/Xf z x.2.op=.call)-> ∀(ρ:CE) (a:Act) (w:World) (ev:Operand->B9),a.tmps.size=cx.n->(∀y,y∈x.2.op.operands->ev y=st.eval y)->(∀d,Uf ops x.2=some d->Yv ρ (st.tmp d) (a.tmps.getD d undef))->Ks ρ ev a.eval x.2.op->CF ρ st.mem st.next w->
  ∀(K:Act->World->Prop) (Q:Exit->Act->World->Prop),(∀ρ' u w',(∀d,x.2.dst=some d->Yv ρ' (st'.tmp d) u)->CF ρ' st'.mem st'.next w'->Ev ρ ρ' cx.floor st.mem st.next st'.mem st'.next w w'->(∀b ab l,Ed x.2.op st.eval st.mem=some b->Yn st.mem b=some ab->ρ b=some l->Wn ρ w' ab l)->K (a.put x.2.dst u) w')->
   if Region.wanted x.2 (yielded ops a.tmps) then x.2.wp P a w K Q else K (a.put x.2.dst undef) w
 calm:st'.ob=true->(Xf z x.2.op=.pure \/Xf z x.2.op=.read)-> ∀(ρ:CE) (a:Act) (w:World) (ev:Operand->B9) (mem:CJ) (next:Nat),a.tmps.size=cx.n->(∀y,y∈x.2.op.operands->ev y=st.eval y)->(∀d,Uf ops x.2=some d->Yv ρ (st.tmp d) (a.tmps.getD d undef))->Ks ρ ev a.eval x.2.op->CF ρ mem next w->
  (∀t y b ab,x.2.op=.load t y->Eh x.2.op ev=some b->Yn st.mem b=some ab->Yn mem b=some ab)-> ∀(K:Act->World->Prop) (Q:Exit->Act->World->Prop),(∀u,(∀d,x.2.dst=some d->Yv ρ (st'.tmp d) u)->K (a.put x.2.dst u) w)->
   if Region.wanted x.2 (yielded ops a.tmps) then x.2.wp P a w K Q else K (a.put x.2.dst undef) w
 lit:st'.ob=true->Xf z x.2.op=.lit -> ∀(ρ:CE) (a:Act) (w:World) (ev:Operand->B9) (mem:CJ) (next:Nat),a.tmps.size=cx.n->(∀y,y∈x.2.op.operands->ev y=st.eval y)->(∀d,Uf ops x.2=some d->Yv ρ (st.tmp d) (a.tmps.getD d undef))->Ks ρ ev a.eval x.2.op->CF ρ mem next w->
  ∀(K:Act->World->Prop) (Q:Exit->Act->World->Prop),(∀ρ' u w',(∀d,x.2.dst=some d->Yv ρ' (st'.tmp d) u)->CF ρ' mem next w'->(∀b,ρ' b=ρ b)->(∀floor m,Ev ρ ρ' floor m next m next w w')->K (a.put x.2.dst u) w')->
   if Region.wanted x.2 (yielded ops a.tmps) then x.2.wp P a w K Q else K (a.put x.2.dst undef) w
theorem v6n {z:Nat} {op:Op} (h:Nc z op=false) (h2:isBirth z op=false):Xf z op=Xb op:=by unfold Xf;grind
theorem v8i {o:Oper} {t:TypeId} {z:zy} (ho:o.op=.alloc t) (hz:EZ P t=some z) (a:Act) (w:World):
  ∃vs:Array Value,Vo ρ z vs/\(execOp a.eval o).run P w=.ok (.value (.pointer (some ⟨w.heap.size,0,none⟩))) {w with heap:=w.heap.push (.cells vs t)}:=by
 obtain ⟨dst,op,type,pos,after,guard⟩:=o;simp only at ho;subst ho;obtain ⟨_,zv,_,_,hzr,hzv⟩:=We (ρ:=ρ) hz;exact ⟨zv.cells,hzr,by simp_all [execOp,Instr.alloc,newVar,newRow]⟩
theorem x4a {w:World} {t:TypeId} {len:Nat} {ps:List (Nat×B9)} {qs:List (Nat×Value)} {cells:zy} {e:TypeId} {sz:Nat} (hb:w4m P t len ps=some (cells,e,sz)) (hp:Iz ρ ps qs):
  ∃vs el,el=e/\Vo ρ cells vs/\(Instr.buildSlice t len qs.toArray).run P w=.ok (.slice (some ⟨w.heap.size,0,none⟩) len len) {w with heap:=w.heap.push (.cells vs el)}/\cells.length=len*sz/\vs.size=len*sz:=by
 unfold w4m at hb;split at hb
 .rename_i e hu;split at hb
  .rename_i i zero hi hz;obtain ⟨hc,hb⟩:=Zo hb;simp only [Ac] at hc;obtain ⟨⟨hl1,hs1⟩,hle,hzl⟩:=hc;have hl1:=Al hl1;have hs1:=Al hs1;have hle:=Al hle;have hzl:=Aj hzl;split at hb
   .rename_i cells dE;obtain ⟨hn,hb⟩:=Zo hb;have hn:=Aj hn;simp only [Ad,Ae] at hb;obtain ⟨rfl,rfl,rfl⟩:=hb;obtain ⟨_,z,_,_,hzr,hzv⟩:=We (ρ:=ρ) hz;have eE:=Rh hzr len (len*i.size) (by rw [hzl]);obtain ⟨arr,h1,h2⟩:=Qd dE eE hp;have hsz:arr.size=len*i.size:=(by rw [<-h2.1,hn]);have hgt': ¬2 ^ 24<len*i.size:=(by omega);have fD:0<len*i.size:=Nat.mul_pos (by omega) (by omega);have h0: ¬len*i.size=0:=(by omega);have hsz0: ¬i.size=0:=(by omega);exact ⟨arr,e,rfl,h2,by simp [Instr.buildSlice,run_underlying hu,Yw hi,h0,hsz0,hzv,h1,newRow,hgt'],hn,hsz⟩
   .cases hb
  .cases hb
 .cases hb
theorem x0t (op:Op):Xb op≠ .lit :=by
 cases op with
 | call c=>
  obtain ⟨callee,args,argTypes⟩:=c;cases callee with
  | builtin b=>cases b <;> exact fun h=>by cases h
  | value f=>exact fun h=>by cases h
  | invoke r m=>exact fun h=>by cases h
 | _=>exact fun h=>by cases h
theorem y3d (op:Op):Xb op≠ .birth :=by
 cases op with
 | call c=>
  obtain ⟨callee,args,argTypes⟩:=c;cases callee with
  | builtin b=>cases b <;> exact fun h=>by cases h
  | value f=>exact fun h=>by cases h
  | invoke r m=>exact fun h=>by cases h
 | _=>exact fun h=>by cases h
theorem w7r {S:CB} {R:CL} (hN:ER P) (hS:Zw P S) (hRI:Er R) (hR:G5 P R) {z:Nat} {ops:Array Oper} {x:Bool×Oper} {cx:CP} {st st':St} (hcx:cx.floor<=st.next) (h:N6 z P S R ops cx x st=some st'):
  u5u S z P ops cx x st st':=by
 unfold N6 at h;cases hz:Nc z x.2.op with
 | false=>
  rw [hz,Aa] at h;cases hz2:isBirth z x.2.op with
  | false=>
   rw [hz2,Aa] at h;have s:=y9x hN hS hRI hR hcx h;have hk:=v6n hz hz2;refine ⟨s.inv,fun k=> ?_,?_,?_,?_,s.slot,s.other,fun ho _=>s.does ho,fun ho k=>s.calm ho (by grind),fun _ k=> ?_⟩
   .rw [hk] at k;rcases k with k | k | k
    .exact s.stay (.inl k)
    .exact s.stay (.inr k)
    .exact absurd k (x0t _)
   .rw [hk];exact s.lift
   .rw [hk];exact s.foot
   .intro _ k hg;have k:Xb x.2.op=.alloc :=by
     grind [y3d]
    obtain ⟨t,z0,e1,e2,e3,e4,e5⟩:=s.alloc k hg;refine ⟨z0,t,e3,e4,fun ρ a w ev _ _=> ?_⟩;obtain ⟨vs,hvs,dB⟩:=v8i (P:=P) (ρ:=ρ) e1 e2 a w;exact ⟨_,vs,t,rfl,hvs,dB,fun ρ' hρ d hd=>by rw [e5 d hd];exact .ptr _ 0 _ hρ⟩
   grind [x0t]
  | true=>
   rw [hz2,Ab] at h;have hk:Xf z x.2.op=.birth :=by unfold Xf;grind
   obtain ⟨lf,o⟩:=x;obtain ⟨dst,op,type,pos,after,guard⟩:=o;simp only at h hz hz2 hk ⊢;cases op with
   | buildSlice t len parts=>
    split at h
    .cases h
    .rename_i st1 hw;obtain ⟨w1,w2,w3⟩:=Wc hw;unfold y8g at h;simp only at h;split at h
     .rename_i cells e sz hv;obtain ⟨p1,p2,p3,p4⟩:=Wt h;have eP: ∀d,dst=some d->st'.tmp d=.sl st1.next 0 len (bif cx.sym then .un sz else .ex len):=fun d hd=>by
       rcases p4 with ⟨e,_⟩ | ⟨d',e,_,he⟩
       .grind
       .rw [hd] at e;obtain rfl:=Ag e;show T.get .undef st'.env d=_;rw [he,T.get_set,AJ rfl]
      have hi1:Xd cx.floor st st1:=Xd.same w1 w2 fun ho=>(w3 ho).1;have hi2:Xd cx.floor (Cr st1 cells e) st':=Xd.same p1 p2 fun ho=>by grind
      obtain ⟨env1,FZ,next1,orc1,ob1⟩:=st1;simp only [Cr] at p1 p2 p3 p4;simp only at w1 w2 eP;refine ⟨(hi1.trans (Xd.new _ _ _)).trans hi2,(fun k=>by grind),(fun _ _ k=>by grind),(fun _ k=>by grind),fun ho _ _=> ?_,fun d hd=> ?_,fun ho t ht=> ?_,(fun _ k=>by grind),(fun _ k=>by grind),(fun _ k=>by grind)⟩
      .have ho1:ob1=true:=(by grind);have dK:=(w3 ho1).2;refine ⟨cells,e,by grind,by rw [p2,w2],fun ρ a w ev hev hr=> ?_⟩;have eK: ∀y,St.eval ⟨env1,FZ,next1,orc1,ob1⟩ y=st.eval y:=fun y=>by cases y <;> first | rfl | exact dK _
       have hpr:Iz ρ (parts.toList.map fun p=>(p.1,St.eval ⟨env1,FZ,next1,orc1,ob1⟩ p.2)) (parts.toList.map fun p=>(p.1,a.eval p.2)):=XA parts.toList fun p hp=>by have hm:p.2∈(Op.buildSlice t len parts).operands :=(by grind [Op.operands]);rw [eK p.2,<-hev p.2 hm];exact hr p.2 hm
       obtain ⟨vs,el,hel,hvs,dB,hn1,hn2⟩:=x4a (w:=w) hv hpr;have hpa:(parts.map fun (i,x)=>(i,a.eval x))=(parts.toList.map fun p=>(p.1,a.eval p.2)).toArray :=by
        grind
       refine ⟨.slice (some ⟨w.heap.size,0,none⟩) len len,vs,el,hel,hvs,by simp [execOp,hpa,dB],fun ρ' hρ d hd=> ?_⟩;rw [eP d hd,w2];refine .sl _ 0 len _ ⟨w.heap.size,0,cells.length,vs.size⟩ len hρ ?_ (Ar _);cases cx.sym with
       | true=>exact ⟨by grind,by grind⟩
       | false=>exact rfl
      .grind
      .have ho1:ob1=true:=(by grind);rw [<-(w3 ho1).2 t];show T.get .undef st'.env t=T.get .undef env1 t
       grind [T.get_set]
     .cases h
    .rename_i st1 hw;obtain ⟨w1,w2,w3⟩:=Wc hw;obtain ⟨p1,p2,p3,p4⟩:=Wt h;have hi1:Xd cx.floor st st1:=Xd.same w1 w2 fun ho=>(w3 ho).1;have hi2:Xd cx.floor st1 st':=Xd.same p1 p2 fun ho=>by grind
     refine ⟨hi1.trans hi2,(fun k=>by grind),(fun _ _ k=>by grind),(fun _ k=>by grind),fun _ _ hg=> ?_,fun d hd=> ?_,fun ho t ht=> ?_,(fun _ k=>by grind),(fun _ k=>by grind),(fun _ k=>by grind)⟩
     .grind [Kn,HM]
     .grind
     .have ho1:st1.ob=true:=(by grind);rw [<-(w3 ho1).2 t];show T.get .undef st'.env t=T.get .undef st1.env t
      grind [T.get_set]
   | _=>cases hz2
 | true=>
  rw [hz,Ab] at h;have hk:Xf z x.2.op=.lit :=by unfold Xf;rw [hz];rfl
  obtain ⟨lf,o⟩:=x;obtain ⟨dst,op,type,pos,after,guard⟩:=o;simp only at h hz hk ⊢;cases op with
  | buildSlice t len parts=>
   split at h
   .cases h
   .rename_i st1 hw;obtain ⟨w1,w2,w3⟩:=Wc hw;unfold w1v at h;simp only at h;split at h
    .rename_i v hv;obtain ⟨p1,p2,p3,p4⟩:=Wt h;have eP: ∀d,dst=some d->st'.tmp d=v:=fun d hd=>by
      rcases p4 with ⟨e,_⟩ | ⟨d',e,_,he⟩
      .grind
      .rw [hd] at e;obtain rfl:=Ag e;show T.get .undef st'.env d=v;rw [he,T.get_set,AJ rfl]
     have hi1:Xd cx.floor st st1:=Xd.same w1 w2 fun ho=>(w3 ho).1;have hi2:Xd cx.floor st1 st':=Xd.same p1 p2 fun ho=>by grind
     refine ⟨hi1.trans hi2,fun _=>⟨p1.trans w1,p2.trans w2⟩,(fun _ _ k=>by grind),(fun _ k=>by grind),(fun _ k=>by grind),fun d hd=> ?_,fun ho t ht=> ?_,(fun _ k=>by grind),(fun _ k=>by grind),fun ho _ ρ a w ev mem next hsz hev hgr hr cZ K Q hK=> ?_⟩
     .grind
     .have ho1:st1.ob=true:=(by grind);rw [<-(w3 ho1).2 t];show T.get .undef st'.env t=T.get .undef st1.env t
      grind [T.get_set]
     .have ho1:st1.ob=true:=(by grind);have dK:=(w3 ho1).2;have eK: ∀y,st1.eval y=st.eval y:=fun y=>by cases y <;> first | rfl | exact dK _
      rw [Uv hw ho1 hsz hgr,AJ rfl];have hpr:Iz ρ (parts.toList.map fun p=>(p.1,st1.eval p.2)) (parts.toList.map fun p=>(p.1,a.eval p.2)):=XA parts.toList fun p hp=>by have hm:p.2∈(Op.buildSlice t len parts).operands :=(by grind [Op.operands]);rw [eK p.2,<-hev p.2 hm];exact hr p.2 hm
      obtain ⟨u,vs,el,dB,hu⟩:=w4g hv hpr (cZ.hold w.heap.size (Ar _));have:(parts.map fun (i,x)=>(i,a.eval x))=(parts.toList.map fun p=>(p.1,a.eval p.2)).toArray :=by
       grind
      unfold Oper.wp;have hrun':(execOp a.eval ⟨dst,.buildSlice t len parts,type,pos,after,guard⟩).run P w=.ok (.value u) {w with heap:=w.heap.push (.cells vs el)}:=by simp [execOp,this,dB]
      rw [hrun'];exact hK _ u _ (fun d hd=>by grind) (cZ.froze vs el) (fun _=>rfl) fun floor m=>Ev.froze cZ floor m vs el
    .cases h
   .rename_i st1 hw;obtain ⟨w1,w2,w3⟩:=Wc hw;obtain ⟨p1,p2,p3,p4⟩:=Wt h;have eP: ∀d,dst=some d->st'.tmp d=.tup []:=fun d hd=>by
     rcases p4 with ⟨e,_⟩ | ⟨d',e,_,he⟩
     .grind
     .rw [hd] at e;obtain rfl:=Ag e;show T.get .undef st'.env d=_;rw [he,T.get_set,AJ rfl]
    have hi1:Xd cx.floor st st1:=Xd.same w1 w2 fun ho=>(w3 ho).1;have hi2:Xd cx.floor st1 st':=Xd.same p1 p2 fun ho=>by grind
    refine ⟨hi1.trans hi2,fun _=>⟨p1.trans w1,p2.trans w2⟩,(fun _ _ k=>by grind),(fun _ k=>by grind),(fun _ k=>by grind),fun d hd=> ?_,fun ho t ht=> ?_,(fun _ k=>by grind),(fun _ k=>by grind),fun ho _ ρ a w ev mem next hsz hev hgr hr cZ K Q hK=> ?_⟩
    .grind
    .have ho1:st1.ob=true:=(by grind);rw [<-(w3 ho1).2 t];show T.get .undef st'.env t=T.get .undef st1.env t
     grind [T.get_set]
    .have ho1:st1.ob=true:=(by grind);rw [Uv hw ho1 hsz hgr,AC Bool.false_ne_true];exact hK ρ undef w (fun d hd=>by rw [eP d hd];exact .tup [] #[] rfl fun i h1 _=>by simp at h1) cZ (fun _=>rfl) fun floor m=>Ev.refl _ _ _ _ _ cZ.dom
  | _=>cases hz
end
section
variable {ops:Array Oper}
def HJ (ops:Array Oper) (S:Nat->Bool):Prop:= ∀j o,ops[j]? =some o->S j=true-> ∀e∈o.after.toList,Region.binds .any e=true->S e.on=true
def HR (S:Nat->Bool) (o:Oper):Prop:= ∀e∈o.after.toList,Region.binds .any e=true->S e.on=true
def JJ (ops:Array Oper) (i:Nat) (o:Oper):Prop:= ∀S,HJ ops S->HR S o->S i=true
theorem x6h (acc:zr) (i:Nat): ∀(es:List Edge) (s:Nat),(es.foldl (fun s e=>bif Region.binds .any e then s||| (2 ^ e.on)||| acc.getD e.on 0 else s) s).testBit i=true->
  s.testBit i=true\/ ∃e∈es,Region.binds .any e=true/\(e.on=i\/(acc.getD e.on 0).testBit i=true)
 | [],s,h=>.inl h
 | e::es,s,h=>by
  simp only [List.foldl_cons] at h;rcases x6h acc i es _ h with h | ⟨e',he',h1,h2⟩;all_goals grind
theorem x6x (eQ: ∀(j:Nat) o,ops[j]? =some o-> ∀e∈o.after.toList,Region.binds .any e=true->e.on<j): ∀(l:List Oper) (acc:zr),acc.length+l.length=ops.size->(∀k,l[k]? =ops[acc.length+k]?)->
  (∀k o,k<acc.length->ops[k]? =some o-> ∀i,(acc.getD k 0).testBit i=true->i<k/\JJ ops i o)->
  ∀k o,ops[k]? =some o-> ∀i,((FQ l acc).getD k 0).testBit i=true->i<k/\JJ ops i o
 | [],acc,dA,_,eH,k,o,ho,i,h=>by have hk:k<ops.size:=(AI.1 ho).1;simp at dA;exact eH k o (by omega) ho i h
 | x::l,acc,dA,hl,eH,k,o,ho,i,h=>by
  unfold FQ at h;refine x6x eQ l (acc++[x.after.toList.foldl (fun s e=>bif Region.binds .any e then s||| (2 ^ e.on)||| acc.getD e.on 0 else s) 0]) (by grind) (fun k=>by
   have:=hl (k+1)
   simpa [AL,Nat.add_comm 1 k] using this) (fun k' o' hk' ho' i' hi'=> ?_) k o ho i h
  by_cases hlt:k'<acc.length
  .refine eH k' o' hlt ho' i' ?_
   grind
  .have hk2:k'=acc.length:=by grind
   subst hk2;have hx:ops[acc.length]? =some x:=by simpa using (hl 0).symm
   rw [hx] at ho';obtain rfl:=Ag ho';have hg:(acc++[x.after.toList.foldl (fun s e=>bif Region.binds .any e then s||| (2 ^ e.on)||| acc.getD e.on 0 else s) 0]).getD acc.length 0=x.after.toList.foldl (fun s e=>bif Region.binds .any e then s||| (2 ^ e.on)||| acc.getD e.on 0 else s) 0:=by
    grind
   rw [hg] at hi';rcases x6h acc i' _ _ hi' with h0 | ⟨e,he,hb,h1⟩
   .simp at h0
   .have hlt':=eQ _ _ hx e he hb;rcases h1 with rfl | h1
    .exact ⟨hlt',fun S _ hr=>hr e he hb⟩
    .have ho2:ops[e.on]? =some (ops[e.on]'(by grind)):=(by simp);obtain ⟨q1,q2⟩:=eH e.on _ hlt' ho2 i' h1;exact ⟨by omega,fun S hc hr=>q2 S hc fun e' he' hb'=>hc e.on _ ho2 (hr e he hb) e' he' hb'⟩
theorem x3f {z:Nat} {op:Op} {k:Fi} (hk:k≠ .lit) (hb:k≠ .birth):Xf z op=k↔Xb op=k/\Nc z op=false/\isBirth z op=false:=by
 grind [Xf]
theorem w2j {z:Nat} {op:Op} (h:Nc z op=true):Xb op=.chain :=by
 cases op <;> first | rfl | (cases h;done)
theorem x3g {z:Nat} {op:Op} (h:isBirth z op=true):Xb op=.chain :=by
 cases op <;> first | rfl | (cases h;done)
theorem x5y {z:Nat} {op:Op} {k:Fi} (hk:k≠ .lit) (hb:k≠ .birth) (hc:k≠ .chain):Xf z op=k↔Xb op=k:=by
 rw [x3f hk hb]
 grind [w2j,x3g]
theorem Wl {z:Nat} {op:Op}:Xf z op=.alloc ↔Xb op=.alloc :=x5y (fun h=>by cases h) (fun h=>by cases h) fun h=>by cases h
theorem x0s {z:Nat} {op:Op}:Xf z op=.read ↔Xb op=.read :=x5y (fun h=>by cases h) (fun h=>by cases h) fun h=>by cases h
theorem y7k {z:Nat} {op:Op} (h:Xf z op=.birth):isBirth z op=true:=by
 grind [Xf,y3d]
structure v8t (z:Nat) (ops:Array Oper):Prop where
 ord: ∀(j:Nat) o,ops[j]? =some o-> ∀e∈o.after.toList,Region.binds .any e=true->e.on<j
 guard: ∀(j:Nat) o,ops[j]? =some o->(Xf z o.op=.alloc \/Xf z o.op=.birth)->o.guard=none
 bits: ∀(j:Nat) o,ops[j]? =some o-> ∀i,((FQ ops.toList []).getD j 0).testBit i=true->i<j/\JJ ops i o
 pair: ∀(i j:Nat) p o,i<j->ops[i]? =some p->ops[j]? =some o->JJ ops i o\/(p.apart ops o=true/\w2b (Xf z p.op) (Xf z o.op)=true/\(Xf z o.op=.read ->EJ ops i=true)/\(Xf z p.op=.read ->EJ ops j=true))
 dst: ∀(i j:Nat) p o d,i<j->ops[i]? =some p->ops[j]? =some o->p.dst=some d->o.dst≠some d
 alloc: ∀(i j:Nat) p o,i<j->ops[i]? =some p->ops[j]? =some o->Xf z o.op=.alloc ->p.apart ops o=true
 birth: ∀(i j:Nat) p o,i<j->ops[i]? =some p->ops[j]? =some o->Xf z o.op=.birth -> ¬(Xf z p.op=.chain \/Xf z p.op=.call)
theorem z8p {z:Nat} (h:N1 z ops=true):v8t z ops:=by
 have hj: ∀(j:Nat) o,ops[j]? =some o->(o.after.toList.all (fun e=> !Region.binds .any e||Nat.ble (e.on+1) j)=true/\(!(Xb o.op == .alloc ||isBirth z o.op)||o.guard.isNone)=true)/\ ∀(i:Nat) p,i<j->ops[i]? =some p->ZZ z ops i j p o=true:=by
  intro j o ho;have hlt:j<ops.size:=(AI.1 ho).1;have:=Au.1 h j (AP.2 hlt)
  grind
 have ord: ∀(j:Nat) o,ops[j]? =some o-> ∀e∈o.after.toList,Region.binds .any e=true->e.on<j:=by intro j o ho e he hb;have:=Au.1 (hj j o ho).1.1 e he;rw [hb] at this;exact Al (by grind)
 have bits:=x6x ord ops.toList [] (by simp) (fun k=>by simp) (fun k o hk=>by simp at hk);refine ⟨ord,fun j o ho hk=> ?_,fun j o ho i hb=>bits j o ho i hb,fun i j p o hij hp ho=> ?_,fun i j p o d hij hp ho hd=> ?_,fun i j p o hij hp ho hk=> ?_,fun i j p o hij hp ho hk hc=> ?_⟩
 .have:=(hj j o ho).1.2;rcases hk with hk | hk;all_goals simp_all [Wl,y7k]
 .have hpo:=(hj j o ho).2 i p hij hp;unfold ZZ at hpo;simp only [Ac,BD] at hpo;cases hb:((FQ ops.toList []).getD j 0).testBit i with
  | true=>grind
  | false=>
   right;rcases hpo.1.1.1 with h1 | ⟨h1,h2⟩
   .grind
   .have hi:i<ops.size:=(AI.1 hp).1;have hjl:j<ops.size:=(AI.1 ho).1;refine ⟨h1,h2,fun hr=> ?_,fun hr=> ?_⟩
    .unfold EJ;rw [BU];refine ⟨j,AP.2 hjl,?_⟩;rw [ho,Option.any_some,x0s.1 hr,hb];have:Nat.ble (i+1) j=true:=AV hij
     grind
    .unfold EJ;rw [BU];refine ⟨i,AP.2 hi,?_⟩;rw [hp,Option.any_some,x0s.1 hr,hb];have:Nat.ble (i+1) j=true:=AV hij
     grind
 all_goals grind [ZZ,Wl,y7k]
theorem Jk {z:Nat} {i:Nat} {o:Oper} (ho:ops[i]? =some o):isAlloc ops i=true↔Xf z o.op=.alloc :=by
 grind [Wl,isAlloc]
theorem y1c (i:Nat):i∈Yb ops↔i<ops.size:=by
 grind [Yb]
theorem Xr :(Yb ops).length =ops.size:=by
 unfold Yb;rw [AK,<-List.countP_eq_length_filter,<-List.countP_eq_length_filter];have:=List.length_eq_countP_add_countP (isAlloc ops) (l:=List.range ops.size)
 grind
def Ord (ops:Array Oper) (i j:Nat):Prop:=(isAlloc ops i=true/\isAlloc ops j=false)\/(isAlloc ops i=isAlloc ops j/\i<j)
theorem y1b :(Yb ops).Pairwise (Ord ops):=by
 unfold Yb;rw [BS];have hr:(List.range ops.size).Pairwise (· < ·):=List.pairwise_lt_range;refine ⟨?_,?_,?_⟩
 .refine ((hr.filter _).imp_of_mem fun {a b} ha hb h=> ?_);have h1:=(Bk.1 ha).2;have h2:=(Bk.1 hb).2;exact .inr ⟨h1.trans h2.symm,h⟩
 .refine ((hr.filter _).imp_of_mem fun {a b} ha hb h=> ?_);have h1:=(Bk.1 ha).2;have h2:=(Bk.1 hb).2;refine .inr ⟨?_,h⟩
  grind
 .intro a ha b hb;have h1:=(Bk.1 ha).2;have h2:=(Bk.1 hb).2;exact .inl ⟨h1,by grind⟩
theorem x3n {k1 k2:Nat} (h:k1<k2) (h2:k2<(Yb ops).length):Ord ops ((Yb ops)[k1]'(by omega)) (Yb ops)[k2]:=
 Bn.1 y1b k1 k2 (by omega) h2 h
end
def TU (ops:Array Oper) (x y:Dg):Prop:=clash x.2.1 y.2.2=true\/clash x.2.2 y.2.1=true->ordered ops x.1 y.1=true
theorem w2v {ops:Array Oper} {x y:Dg} (h:ZS ops x y=true):TU ops x y:=by
 intro hc
 grind [ZS]
theorem z3r {z:Nat} {P:Program} {S:CB} {R:CL} {ops:Array Oper} {cx:CP}: ∀(l:List (Nat×Bool×Oper)) (acc:List Dg) (st st':St),Rf z P S R ops cx l acc st=some st'->
  ∃f:Nat->St,f 0=st/\f l.length=st'/\(∀(k:Nat) (h:k<l.length),N6 z P S R ops cx l[k].2 (f k)=some (f (k+1)))/\
   (∀(k:Nat) (h:k<l.length),∀y∈acc,TU ops (GA S l[k] (f k).eval) y\/lateF z ops l[k] (f k).eval (f k).mem y=true)/\
   ∀(q k:Nat) (hq:q<k) (h:k<l.length),TU ops (GA S l[k] (f k).eval) (GA S (l[q]'(by omega)) (f q).eval)\/lateF z ops l[k] (f k).eval (f k).mem (GA S (l[q]'(by omega)) (f q).eval)=true
 | [],acc,st,st',h=>by have h:some st=some st':=h;obtain rfl:=Ag h;exact ⟨fun _=>st,rfl,rfl,fun k h=>by simp at h,fun k h=>by simp at h,fun q k _ h=>by simp at h⟩
 | x::l,acc,st,st',h=>by
  have h:(bif acc.all (fun y=>ZS ops (GA S x st.eval) y||lateF z ops x st.eval st.mem y) then
    match N6 z P S R ops cx x.2 st with
    | some st'=>Rf z P S R ops cx l (GA S x st.eval::acc) st'
    | none=>none
   else none)=some st':=h
  obtain ⟨eH,h⟩:=Zo h;split at h
  .rename_i st1 h1;obtain ⟨f,f0,fn,fs,fa,fp⟩:=z3r l _ st1 st' h;refine ⟨fun k=>match k with | 0=>st | k+1=>f k,rfl,fn,fun k hk=> ?_,fun k hk y hy=> ?_,fun q k hqk hk=> ?_⟩;all_goals grind [w2v]
  .cases h
theorem x4j {S:CB} {op:Op} (h:Xb op=.chain) (ev:Operand->B9):Ec S op ev=EF op ev:=by
 cases op with
 | call c=>
  obtain ⟨callee,args,argTypes⟩:=c;cases callee with
  | value f=>cases h
  | _=>rfl
 | _=>rfl
theorem z3z (p q:Nat->Bool) (i:Nat): ∀(n:Nat),(∀k,k≠i->q k=p k)->p i=true->q i=false->i<n->(List.range n).countP q+1=(List.range n).countP p
 | 0,_,_,_,h=>absurd h (AD _)
 | n+1,hpq,hp,hq,h=>by
  rw [BQ,List.countP_append,List.countP_append];by_cases hi:i<n
  .have:=z3z p q i n hpq hp hq hi
   grind
  .have hin:i=n:=by omega
   subst hin;have e:(List.range i).countP q=(List.range i).countP p:=List.countP_congr fun k hk=>by
    grind
   grind
section
variable {P:Program}
theorem CF.unborn {ρ:CE} {mem:CJ} {next:Nat} {w:World} (h:CF ρ mem next w) (o:Option CG):CF ρ (Wv mem next o) (next+1) w:=by
 have ne: ∀b l,ρ b=some l->b≠next:=fun b l e=>by have:=h.dom b l e;omega
 refine ⟨fun b l e=>by have:=h.dom b l e;omega,fun b b' l l' e e' he hs hs'=> ?_,fun b l ab e hm=> ?_,h.old,fun b l e hs=>h.sep b l e (by rwa [Zv _ _ (ne b l e)] at hs),h.real,fun b hb=>by rw [Zv _ _ (by omega)];exact h.bd b (by omega),⟨fun j l e=>Bo (h.ldom.1 j l e),h.ldom.2⟩⟩
 .rw [Zv _ _ (ne b l e)] at hs;rw [Zv _ _ (ne b' l' e')] at hs';exact h.inj b b' l l' e e' he hs hs'
 .rw [Zv _ _ (ne b l e)] at hm;exact h.blk b l ab e hm
theorem CF.birth {ρ:CE} {mem:CJ} {next:Nat} {w:World} (h:CF ρ mem next w) {b:Nat} {cs:zy} {ty:TypeId} (hb:b<next) (hn:ρ b=none) (hm:Yn mem b=some ⟨cs,ty,none⟩) {vs:Array Value} (el:TypeId) (hv:Vo ρ cs vs) (hel:el=ty):
  CF (Vb ρ b ⟨w.heap.size,0,cs.length,vs.size⟩) mem next {w with heap:=w.heap.push (.cells vs el)}:=by
 have hle:=JH (l:=⟨w.heap.size,0,cs.length,vs.size⟩) hn;have dG: ∀c l,Vb ρ b ⟨w.heap.size,0,cs.length,vs.size⟩ c=some l->(c=b/\l=⟨w.heap.size,0,cs.length,vs.size⟩)\/(c≠b/\ρ c=some l):=fun c l e=>by
  grind [Vt]
 refine ⟨fun c l e=> ?_,fun c c' l l' e e' hbl hs hs'=> ?_,fun c l ab e hc=> ?_,fun k o e=> ?_,fun c l e=> ?_,fun c l e=> ?_,h.bd,h.ldom⟩
 .rcases dG c l e with ⟨rfl,_⟩ | ⟨_,e⟩
  .exact hb
  .exact h.dom c l e
 .rcases dG c l e with ⟨hc,hl⟩ | ⟨hc,e2⟩ <;> rcases dG c' l' e' with ⟨hc',hl'⟩ | ⟨hc',e2'⟩
  .rw [hc,hc']
  .have:=h.real c' l' e2';grind
  .have:=h.real c l e2;grind
  .exact h.inj c c' l l' e2 e2' hbl hs hs'
 .rcases dG c l e with ⟨rfl,rfl⟩ | ⟨_,e⟩
  .rw [hm] at hc;obtain rfl:=Ag hc;have h1:=hv.1;refine .plain ⟨by simp [hel],rfl,by grind,(fun A e=>by cases e),vs,el,by simp,by simp,fun i hi=> ?_⟩;have h2:i<vs.size:=by grind
   exact ⟨vs[i],by grind,(hv.2 i hi h2).mono hle⟩
  .refine (h.blk c l ab e hc).world hle ?_;have:=h.real c l e
   grind
 .have hk:=h.old k o e
  grind
 .intro hs;rcases dG c l e with ⟨rfl,rfl⟩ | ⟨_,e⟩
  .exact h.hold _ (Ar _)
  .exact h.sep c l e hs
 .rcases dG c l e with ⟨rfl,rfl⟩ | ⟨_,e⟩
  .simp
  .have:=h.real c l e;simp;omega
structure DW (S:CB) (z:Nat) (P:Program) (ops:Array Oper) (cx:CP) (st:St) (f:Nat->St):Prop where
 chk:v8t z ops
 f0:f 0=st
 hcx:cx.floor<=st.next
 ob: ∀k,k<=ops.size->(f k).ob =true
 step: ∀(k:Nat) (h:k<(Yb ops).length),u5u S z P ops cx (EJ ops (Yb ops)[k],ops.getD (Yb ops)[k] default) (f k) (f (k+1))
 foot: ∀(q k:Nat) (hq:q<k) (h:k<(Yb ops).length),TU ops (GA S ((Yb ops)[k],EJ ops (Yb ops)[k],ops.getD (Yb ops)[k] default) (f k).eval) (GA S ((Yb ops)[q],EJ ops (Yb ops)[q],ops.getD (Yb ops)[q] default) (f q).eval)\/
  lateF z ops ((Yb ops)[k],EJ ops (Yb ops)[k],ops.getD (Yb ops)[k] default) (f k).eval (f k).mem (GA S ((Yb ops)[q],EJ ops (Yb ops)[q],ops.getD (Yb ops)[q] default) (f q).eval)=true
variable {Sp:CB} {z:Nat} {ops:Array Oper} {cx:CP} {st:St} {f:Nat->St}
def CH (ops:Array Oper) (k:Nat):Nat:=(Yb ops).getD k ops.size
theorem u5p {k:Nat} (h:k<ops.size):CH ops k<ops.size:=by
 have hl:k<(Yb ops).length :=by rw [Xr];exact h
 have:CH ops k=(Yb ops)[k]:=by simp [CH,hl]
 rw [this];exact (y1c _).1 (AS hl)
theorem FE {k1 k2:Nat} (h:k1<k2) (h2:k2<ops.size):Ord ops (CH ops k1) (CH ops k2):=by
 grind [Xr,x3n,CH]
theorem t0b {i:Nat} (h:i<ops.size): ∃k,k<ops.size/\CH ops k=i:=by obtain ⟨k,hk,e⟩:=AQ ((y1c (ops:=ops) i).2 h);exact ⟨k,by rw [Xr] at hk;exact hk,by simp [CH,hk,e]⟩
theorem DW.step' (g:DW Sp z P ops cx st f) {k:Nat} (h:k<ops.size): ∃o,ops[CH ops k]? =some o/\u5u Sp z P ops cx (EJ ops (CH ops k),o) (f k) (f (k+1)):=by
 have hl:k<(Yb ops).length :=by rw [Xr];exact h
 have e:CH ops k=(Yb ops)[k]:=by simp [CH,hl]
 have hlt:=u5p h;refine ⟨ops[CH ops k],by simp [hlt],?_⟩;have:=g.step k hl;rw [<-e] at this;have hd:ops.getD (CH ops k) default=ops[CH ops k]:=by simp [hlt]
 grind
theorem DW.foot' (g:DW Sp z P ops cx st f) {q k:Nat} (hq:q<k) (h:k<ops.size) {o x:Oper} (ho:ops[CH ops k]? =some o) (hx:ops[CH ops q]? =some x):
  TU ops (CH ops k,Eh o.op (f k).eval,Ec Sp o.op (f k).eval) (CH ops q,Eh x.op (f q).eval,Ec Sp x.op (f q).eval)\/lateF z ops (CH ops k,EJ ops (CH ops k),o) (f k).eval (f k).mem (CH ops q,Eh x.op (f q).eval,Ec Sp x.op (f q).eval)=true:=by
 have hl:k<(Yb ops).length :=by rw [Xr];exact h
 have hl2:q<(Yb ops).length :=by omega
 have e:CH ops k=(Yb ops)[k]:=by simp [CH,hl]
 have e2:CH ops q=(Yb ops)[q]:=by simp [CH,hl2]
 have:=g.foot q k hq hl;rw [<-e,<-e2] at this;have hd:ops.getD (CH ops k) default=o:=by simp [ho]
 have hd2:ops.getD (CH ops q) default=x:=by simp [hx]
 rw [hd,hd2] at this;exact this
theorem DW.next_le (g:DW Sp z P ops cx st f): ∀{a b:Nat},a<=b->b<=ops.size->(f a).next <=(f b).next :=by
 intro a b hab hb
 induction b with
 | zero=>grind
 | succ b ih=>
  by_cases e:a=b+1
  .grind
  .obtain ⟨o,_,s⟩:=g.step' (k:=b) (by omega);exact AG (ih (by omega) (by omega)) s.inv.nxt
theorem DW.bd (g:DW Sp z P ops cx st f) (h0: ∀b,st.next<=b->Yn st.mem b=none): ∀{k:Nat},k<=ops.size-> ∀b,(f k).next <=b->Yn (f k).mem b=none:=by
 intro k hk
 induction k with
 | zero=>rw [g.f0];exact h0
 | succ k ih=>obtain ⟨o,_,s⟩:=g.step' (k:=k) (by omega);exact s.inv.bd (ih (by omega))
theorem DW.slot_stays (g:DW Sp z P ops cx st f) {t:Tmp}: ∀{a b:Nat},a<=b->b<=ops.size->(∀k o,a<=k->k<b->ops[CH ops k]? =some o->o.dst≠some t)->(f b).tmp t=(f a).tmp t:=by
 intro a b hab hb hno
 induction b with
 | zero=>grind
 | succ b ih=>
  by_cases e:a=b+1
  .subst e;rfl
  .obtain ⟨o,ho,s⟩:=g.step' (k:=b) (by omega);rw [s.other (g.ob _ hb) t (hno b o (by omega) (by omega) ho)]
   grind
def EM (z:Nat) (o:Oper):Prop:=Xf z o.op=.chain \/Xf z o.op=.call
def Nk (z:Nat) (o:Oper):Prop:=Xf z o.op=.pure \/Xf z o.op=.lit
def En (z:Nat) (o:Oper):Prop:=Xf z o.op=.alloc \/Xf z o.op=.birth
theorem Ni (z:Nat) (o:Oper):Nk z o\/Xf z o.op=.read \/En z o\/EM z o:=by unfold EM Nk En;cases Xf z o.op <;> simp
theorem DW.mem_stays (g:DW Sp z P ops cx st f): ∀{a b:Nat},a<=b->b<=ops.size->(∀k o,a<=k->k<b->ops[CH ops k]? =some o->Nk z o\/Xf z o.op=.read)->(f b).mem =(f a).mem /\(f b).next =(f a).next :=by
 intro a b hab hb hno
 induction b with
 | zero=>grind
 | succ b ih=>
  by_cases e:a=b+1
  .grind
  .obtain ⟨o,ho,s⟩:=g.step' (k:=b) (by omega);obtain ⟨e1,e2⟩:=s.stay (by rcases hno b o (by omega) (by omega) ho with (k | k) | k <;> simp [k])
   grind
theorem DW.blk_stays (g:DW Sp z P ops cx st f) {x:Nat}: ∀{a b:Nat},a<=b->b<=ops.size->x<(f a).next ->
  (∀k o,a<=k->k<b->ops[CH ops k]? =some o->Nk z o\/Xf z o.op=.read \/(Xf z o.op=.call /\EJ ops (CH ops k)=true/\Ec Sp o.op (f k).eval ≠some x)\/(Xf z o.op=.chain /\EF o.op (f k).eval ≠some x)\/En z o)->Yn (f b).mem x=Yn (f a).mem x:=by
 intro a b hab hb hx hno
 induction b with
 | zero=>grind
 | succ b ih=>
  by_cases e:a=b+1
  .subst e;rfl
  .obtain ⟨o,ho,s⟩:=g.step' (k:=b) (by omega);have ih:=ih (by omega) (by omega) fun k o h1 h2=>hno k o h1 (by omega);rw [<-ih];rcases hno b o (by omega) (by omega) ho with h1 | h1 | ⟨h1,h2,h3⟩ | ⟨h1,h2⟩ | h1
   .rw [(s.stay (by rcases h1 with k | k <;> simp [k])).1]
   .rw [(s.stay (.inr (.inl h1))).1]
   .exact s.lift (g.ob _ hb) h2 h1 x (AY hx (g.next_le (by omega) (by omega))) h3
   .exact s.foot (g.ob _ hb) h1 x (AY hx (g.next_le (by omega) (by omega))) h2
   .obtain ⟨cells,ty,e1,_,_⟩:=s.fresh (g.ob _ hb) h1 (g.chk.guard _ o ho h1);have:=AY hx (g.next_le (a:=a) (b:=b) (by omega) (by omega));rw [e1,Zv _ _ (by omega)]
structure Inv (z:Nat) (P:Program) (D:List Deferred) (ops:Array Oper) (cx:CP) (st:St) (f:Nat->St) (ρ0:CE) (w0:World) (S:Nat->Bool) (p:Nat) (ρ:CE) (a:Act) (w:World):Prop where
 closed:HJ ops S
 defers:a.defers=D
 tsz:a.tmps.size=cx.n
 done: ∀k o d,k<ops.size->ops[CH ops k]? =some o->S (CH ops k)=true->o.dst=some d->Yv ρ ((f (k+1)).tmp d) (a.tmps.getD d undef)
 undone: ∀t,(∀i o,ops[i]? =some o->S i=true->o.dst≠some t)->Yv ρ (st.tmp t) (a.tmps.getD t undef)
 ple:p<=ops.size
 past: ∀k o,k<ops.size->ops[CH ops k]? =some o->En z o->k<p
 chain: ∀k o,k<ops.size->ops[CH ops k]? =some o->EM z o->(S (CH ops k)=true↔k<p)
 rel:CF ρ (f p).mem (f p).next w
 ev:Ev ρ0 ρ cx.floor st.mem st.next (f p).mem (f p).next w0 w
 late: ∀k q o x b ab,k<q->q<p->q<ops.size->ops[CH ops k]? =some o->ops[CH ops q]? =some x->S (CH ops k)=false->EM z x->Gd z ops (CH ops k) (CH ops q)=true->Ed x.op (f q).eval (f q).mem =some b->Yn (f q).mem b=some ab->CF ρ (Wv .leaf b (some ab)) (f p).next w
 allocs: ∀k o,k<ops.size->ops[CH ops k]? =some o->En z o->S (CH ops k)=false->st.next<=(f k).next /\(f k).next <(f p).next /\ρ (f k).next =none/\Yn (f p).mem (f k).next =Yn (f (k+1)).mem (f k).next
theorem y7h {o:Oper} {t:Tmp} (h:Operand.tmp t∈o.op.operands):t∈o.looksAt ops:=by unfold Oper.looksAt;rw [AF];left;rw [List.mem_filterMap];exact ⟨.tmp t,Array.mem_toList_iff.2 h,rfl⟩
theorem x3b {o:Oper} {d:Tmp} (h:Uf ops o=some d):d∈o.looksAt ops:=by
 grind [Oper.looksAt,Uf]
theorem w4b (g:DW Sp z P ops cx st f) {i:Nat} {o:Oper} (ho:ops[i]? =some o) (hk:Xf z o.op=.alloc):o.looksAt ops=[]:=by
 unfold Oper.looksAt;rw [g.chk.guard i o ho (.inl hk)];rw [Wl] at hk;obtain ⟨dst,op,type,pos,after,guard⟩:=o;simp only at hk ⊢;cases op with
 | alloc t=>rfl
 | call c=>
  obtain ⟨callee,args,argTypes⟩:=c;cases callee with
  | builtin b=>cases b <;> cases hk
  | value f=>cases hk
  | invoke r m=>cases hk
 | _=>cases hk
section
variable {D:List Deferred} {ρ0:CE} {w0:World} {S:Nat->Bool} {p:Nat} {ρ:CE} {a:Act} {w:World}
theorem x3o (g:DW Sp z P ops cx st f) {i j:Nat} {x y:Oper} {d:Tmp} (hi:ops[i]? =some x) (hj:ops[j]? =some y) (hx:x.dst=some d) (hy:y.dst=some d):i=j:=by
 rcases Bs i j with h | h | h
 .exact absurd hy (g.chk.dst i j x y d h hi hj hx)
 .exact h
 .exact absurd hx (g.chk.dst j i y x d h hj hi hy)
theorem Inv.looks (g:DW Sp z P ops cx st f) (I:Inv z P D ops cx st f ρ0 w0 S p ρ a w) {k:Nat} {o:Oper} (hk:k<ops.size) (ho:ops[CH ops k]? =some o) (hns:S (CH ops k)=false) (dI:HR S o) {t:Tmp} (ht:t∈o.looksAt ops):
  Yv ρ ((f k).tmp t) (a.tmps.getD t undef):=by
 by_cases hw: ∃i x,ops[i]? =some x/\S i=true/\x.dst=some t
 .obtain ⟨i,x,hx,hs,hd⟩:=hw;have hil:i<ops.size:=(AI.1 hx).1;obtain ⟨k',hk',rfl⟩:=t0b hil;have hne:k'≠k:=fun e=>by grind
  have hlt:k'<k:=by
   rcases A7 k' k with h | h
   .exact h
   .exfalso;have hkk:k<k':=(by omega);rcases Bs (CH ops k) (CH ops k') with hij | hij | hij
    .rcases g.chk.pair _ _ _ _ hij ho hx with hf | ⟨hap,_⟩
     .have:=hf S I.closed (fun e he hb=>I.closed _ _ hx hs e he hb)
      grind
     grind [Oper.apart_spec]
    .grind
    .rcases FE hkk hk' with ⟨h1,_⟩ | ⟨_,h2⟩;all_goals grind [w4b,Jk]
  have hst:(f k).tmp t=(f (k'+1)).tmp t:=g.slot_stays (by omega) (by omega) fun q y h1 h2 hy hyd=>by
   have:=x3o g hx hy hd hyd;have e:CH ops k'=CH ops q:=this;rcases FE (ops:=ops) (k1:=k') (k2:=q) (by omega) (by omega) with ⟨h1,h2⟩ | ⟨_,h2⟩;all_goals grind
  rw [hst];exact I.done k' x t hk' hx hs hd
 .have hno: ∀i x,ops[i]? =some x->S i=true->x.dst≠some t:=fun i x hx hs hd=>hw ⟨i,x,hx,hs,hd⟩;have hst:(f k).tmp t=(f 0).tmp t:=g.slot_stays (Ay _) (by omega) fun q y _ h2 hy hyd=>by
   have hqs:S (CH ops q)=false:=by
    grind
   rcases Bs (CH ops q) (CH ops k) with hij | hij | hij
   .rcases g.chk.pair _ _ _ _ hij hy ho with hf | ⟨hap,_⟩
    .have:=hf S I.closed dI
     grind
    grind [Oper.apart_spec]
   .rcases FE (ops:=ops) h2 hk with ⟨h1,h3⟩ | ⟨_,h3⟩;all_goals grind
   .rcases FE (ops:=ops) h2 hk with ⟨h1,_⟩ | ⟨_,h3⟩
    .have hap:=g.chk.alloc _ _ _ _ hij ho hy ((Jk (z:=z) hy).1 h1)
     grind [Oper.apart_spec]
    .omega
  rw [hst,g.f0];exact I.undone t hno
theorem Inv.operands (g:DW Sp z P ops cx st f) (I:Inv z P D ops cx st f ρ0 w0 S p ρ a w) {k:Nat} {o:Oper} (hk:k<ops.size) (ho:ops[CH ops k]? =some o) (hns:S (CH ops k)=false) (dI:HR S o):Ks ρ (f k).eval a.eval o.op:=by
 intro x hx;cases x with
 | tmp t=>exact I.looks g hk ho hns dI (y7h hx)
 | const v=>exact v5v v
 | global g=>exact .undef _
 | func f=>exact .fn f [] #[] rfl fun i h1 _=>by simp at h1
theorem Inv.slots (g:DW Sp z P ops cx st f) (I:Inv z P D ops cx st f ρ0 w0 S p ρ a w) {k:Nat} {o:Oper} (hk:k<ops.size) (ho:ops[CH ops k]? =some o) (hns:S (CH ops k)=false) {ρ':CE} (hle:ρ.le ρ') {u:Value}
  (dO: ∀d,o.dst=some d->Yv ρ' ((f (k+1)).tmp d) u) {S':Nat->Bool} (hS: ∀i,S' i=(S i||i == CH ops k)):
  (∀k' x d,k'<ops.size->ops[CH ops k']? =some x->S' (CH ops k')=true->x.dst=some d->Yv ρ' ((f (k'+1)).tmp d) ((a.put o.dst u).tmps.getD d undef))/\
  (∀t,(∀i x,ops[i]? =some x->S' i=true->x.dst≠some t)->Yv ρ' (st.tmp t) ((a.put o.dst u).tmps.getD t undef)):=by
 have other: ∀t,o.dst≠some t->(a.put o.dst u).tmps.getD t undef=a.tmps.getD t undef:=fun t ht=>by
  cases hd:o.dst with
  | none=>rfl
  | some d=>simp_all [Act.put]
 obtain ⟨_,ho',s⟩:=g.step' hk;rw [ho] at ho';obtain rfl:=Ag ho';refine ⟨fun k' x d hk' hx hs hd=> ?_,fun t hno=> ?_⟩
 .by_cases hod:o.dst=some d
  .have e:=x3o g ho hx hod hd;have hkk:k'=k:=by
    rcases Bs k' k with h | h | h
    .rcases FE (ops:=ops) h hk with ⟨h1,h3⟩ | ⟨_,h3⟩;all_goals grind
    .exact h
    .rcases FE (ops:=ops) h hk' with ⟨h1,h3⟩ | ⟨_,h3⟩;all_goals grind
   subst hkk;have hlt:d<a.tmps.size:=by rw [I.tsz];exact s.slot d hod
   simp_all [Act.put]
  .rw [other d hod];have hne:CH ops k'≠CH ops k:=fun e=>by
    grind
   have hs':S (CH ops k')=true:=by
    grind
   exact (I.done k' x d hk' hx hs' hd).mono hle
 .have hod:o.dst≠some t:=hno _ o ho (by rw [hS];simp);rw [other t hod];exact (I.undone t fun i x hx hs=>hno i x hx (by grind)).mono hle
theorem Inv.closes (I:Inv z P D ops cx st f ρ0 w0 S p ρ a w) {i:Nat} {o:Oper} (ho:ops[i]? =some o) (dI:HR S o) {S':Nat->Bool} (hS: ∀j,S' j=(S j||j == i)):HJ ops S':=by
 intro j x hx hs e he hb;rw [hS] at hs ⊢;by_cases hj:j=i
 .subst hj;rw [ho] at hx;obtain rfl:=Ag hx;rw [dI e he hb];rfl
 .have:S j=true:=by grind
  rw [I.closed j x hx this e he hb];rfl
theorem v0y {i:Nat} {l:Bool} {o:Oper} {ev:Operand->B9} {mem:CJ} {y:Dg} (h:Xf z o.op=.read):lateF z ops (i,l,o) ev mem y=false:=by
 have hk:Ed o.op ev mem=none:=by
  unfold Ed;split
  .rename_i e;rw [e] at h;cases h
  .rfl
 unfold lateF
 grind
theorem v0x {i j b:Nat} {l:Bool} {x:Oper} {ev:Operand->B9} {mem:CJ} {wr:Option Nat} (h:lateF z ops (i,l,x) ev mem (j,some b,wr)=true):Gd z ops j i=true/\Ed x.op ev mem=some b:=by
 unfold lateF at h;split at h
 .rename_i j' b' e;simp only [Ae,Ad] at e;obtain ⟨rfl,rfl,rfl⟩:=e;split at h;all_goals simp_all
 .cases h
theorem Inv.between (g:DW Sp z P ops cx st f) (I:Inv z P D ops cx st f ρ0 w0 S p ρ a w) {k:Nat} {o:Oper} (hk:k<ops.size) (ho:ops[CH ops k]? =some o) (hns:S (CH ops k)=false) (dI:HR S o) (fI:Xf z o.op=.read) {b:Nat} (hb:Eh o.op (f k).eval =some b):
  (∀q x,p<=q->q<k->ops[CH ops q]? =some x->Nk z x\/Xf z x.op=.read \/(Xf z x.op=.call /\EJ ops (CH ops q)=true/\Ec Sp x.op (f q).eval ≠some b)\/(Xf z x.op=.chain /\EF x.op (f q).eval ≠some b)\/En z x)/\
  (∀q x,k<=q->q<p->ops[CH ops q]? =some x->Nk z x\/Xf z x.op=.read \/(Xf z x.op=.call /\EJ ops (CH ops q)=true/\Ec Sp x.op (f q).eval ≠some b)\/(Xf z x.op=.chain /\EF x.op (f q).eval ≠some b)\/En z x\/(EM z x/\Gd z ops (CH ops k) (CH ops q)=true/\Ed x.op (f q).eval (f q).mem =some b)):=by
 have nal:isAlloc ops (CH ops k)=false:=by
  grind [Jk]
 constructor
 .intro q x h1 h2 hx;rcases Ni z x with h | h | h | h
  .exact .inl h
  .grind
  .grind
  .have hqs:S (CH ops q)=false:=by
    cases e:S (CH ops q) with
    | false=>rfl
    | true=>have:=(I.chain q x (by omega) hx h).1 e;omega
   have hlt:CH ops q<CH ops k:=by
    rcases FE (ops:=ops) h2 hk with ⟨h3,_⟩ | ⟨_,h3⟩
    .have:=I.past q x (by omega) hx (.inl ((Jk (z:=z) hx).1 h3));omega
    .exact h3
   rcases g.chk.pair _ _ _ _ hlt hx ho with hf | ⟨_,hkd,hl,_⟩
   .have:=hf S I.closed dI
    grind
   .have no:Ec Sp x.op (f q).eval ≠some b:=fun hw=>by
     have:=(g.foot' h2 hk ho hx).resolve_right (fun hl=>by
      rw [v0y fI] at hl;cases hl) (.inl (by rw [hb,hw];exact BK b))
     unfold ordered at this;simp only [BD] at this;rcases this with this | this
     .have:=(g.chk.bits _ _ hx _ this).1;omega
     .have:=(g.chk.bits _ _ ho _ this).2 S I.closed dI
      grind
    rcases h with h | h;all_goals simp_all [x4j,x3f]
 .intro q x h1 h2 hx;have hp:=I.ple;rcases Ni z x with h | h | h | h
  .exact .inl h
  .grind
  .grind
  .have hqs:S (CH ops q)=true:=(I.chain q x (by omega) hx h).2 h2;have hne:q≠k:=fun e=>by grind
   have hlt:CH ops k<CH ops q:=by
    rcases FE (ops:=ops) (k1:=k) (k2:=q) (by omega) (by omega) with ⟨h3,_⟩ | ⟨_,h3⟩;all_goals grind
   rcases g.chk.pair _ _ _ _ hlt ho hx with hf | ⟨_,hkd,_,hl⟩
   .have:=hf S I.closed fun e he hb=>I.closed _ _ hx hqs e he hb
    grind
   .rcases g.foot' (q:=k) (k:=q) (by omega) (by omega) hx ho with hfo | hla
    rotate_left
    .grind [v0x]
    have no:Ec Sp x.op (f q).eval ≠some b:=fun hw=>by
     have:=hfo (.inr (by rw [hb,hw];exact BK b));unfold ordered at this;simp only [BD] at this;rcases this with this | this
     .have:=(g.chk.bits _ _ ho _ this).1;omega
     .have:=(g.chk.bits _ _ hx _ this).2 S I.closed fun e he hb=>I.closed _ _ hx hqs e he hb
      grind
    rcases h with h | h;all_goals simp_all [x4j,x3f]
theorem Inv.next_chain (g:DW Sp z P ops cx st f) (I:Inv z P D ops cx st f ρ0 w0 S p ρ a w) {k:Nat} {o:Oper} (hk:k<ops.size) (ho:ops[CH ops k]? =some o) (hns:S (CH ops k)=false) (dI:HR S o) (hch:EM z o):
  p<=k/\(∀q x,q<ops.size->ops[CH ops q]? =some x->EM z x->(S (CH ops q)=true↔q<k)):=by
 have nal:isAlloc ops (CH ops k)=false:=by
  cases e:isAlloc ops (CH ops k) with
  | false=>rfl
  | true=>have:=(Jk (z:=z) ho).1 e;rcases hch with h | h <;> rw [h] at this <;> cases this
 have key: ∀q x,q<ops.size->ops[CH ops q]? =some x->EM z x->(S (CH ops q)=true↔q<k):=by
  intro q x hq hx hxc;have nalx:isAlloc ops (CH ops q)=false:=by
   cases e:isAlloc ops (CH ops q) with
   | false=>rfl
   | true=>have:=(Jk (z:=z) hx).1 e;rcases hxc with h | h <;> rw [h] at this <;> cases this
  have nok: ∀(x y:Oper),EM z x->EM z y->w2b (Xf z x.op) (Xf z y.op)=false:=by
   intro x y hx hy;rcases hx with h | h <;> rcases hy with h' | h' <;> rw [h,h'] <;> rfl
  constructor
  .intro hs;rcases Bs q k with h | h | h
   .exact h
   .grind
   .exfalso;have hlt:CH ops k<CH ops q:=by
     rcases FE (ops:=ops) h hq with ⟨h3,_⟩ | ⟨_,h3⟩;all_goals grind
    rcases g.chk.pair _ _ _ _ hlt ho hx with hf | ⟨_,hkd,_⟩
    .have:=hf S I.closed fun e he hb=>I.closed _ _ hx hs e he hb
     grind
    grind
  .intro h;have hlt:CH ops q<CH ops k:=by
    rcases FE (ops:=ops) h hk with ⟨h3,_⟩ | ⟨_,h3⟩;all_goals grind
   rcases g.chk.pair _ _ _ _ hlt hx ho with hf | ⟨_,hkd,_⟩
   .exact hf S I.closed dI
   grind
 refine ⟨?_,key⟩;rcases A7 k p with h | h
 .have:=(I.chain k o hk ho hch).2 h
  grind
 .exact h
end
end
section
variable {Sp:CB} {z:Nat} {P:Program} {D:List Deferred} {ops:Array Oper} {cx:CP} {st:St} {f:Nat->St}
theorem w8d {ρ ρ':CE} {floor:Nat} {m m':CJ} {n n':Nat} {w w':World} (h:CF ρ m n w) (h':CF ρ' m' n' w') (e:Ev ρ ρ' floor m n m' n' w w') {b:Nat} {ab:CG} (hm:Yn m b=some ab) (hb: ∀l,ρ b=some l->Wn ρ w' ab l):
  CF ρ' (Wv .leaf b (some ab)) n' w':=by
 have hbn:b<n:=by
  rcases A7 b n with g | g
  .exact g
  .rw [h.bd b g] at hm;cases hm
 have hn:=e.nxt;have hg: ∀c,(Yn (Wv .leaf b (some ab)) c).isSome =true->c=b:=fun c hc=>by
  by_cases hcb:c=b
  .exact hcb
  .rw [Zv _ _ hcb] at hc;cases hc
 refine ⟨h'.dom,fun c c' l l' _ _ _ hs hs'=>(hg c hs).trans (hg c' hs').symm,fun c l a hc ha=> ?_,h'.old,fun c l hc hs=> ?_,h'.real,fun c hc=> ?_,h'.ldom⟩
 .obtain rfl:=hg c (by rw [ha];rfl);rw [Yk] at ha;obtain rfl:=Ag ha;rw [e.new c hbn] at hc;have q:=hb l hc;exact q.world e.ext rfl
 .obtain rfl:=hg c hs;rw [e.new c hbn] at hc;rw [e.still _ (h.real c l hc)];exact h.sep c l hc (by rw [hm];rfl)
 .rw [Zv _ _ (by omega)];rfl
theorem u5g (g:DW Sp z P ops cx st f) {ρ0:CE} {w0:World} (hout: ∀i,cx.n<=i->T.get .undef st.env i=.undef) (hbd: ∀b,st.next<=b->Yn st.mem b=none): ∀(fuel:Nat) (listed:Array Bool) (p:Nat) (ρ:CE) (a:Act) (w:World),listed.size=ops.size->
  (List.range ops.size).countP (fun i=> !listed.getD i false)=fuel->Inv z P D ops cx st f ρ0 w0 (fun i=>listed.getD i false) p ρ a w->wpAny P .any ops (Ir D ρ0 cx st (f ops.size) w0) fuel listed a w:=by
 have someReady: ∀listed:Array Bool,listed.size=ops.size-> ∀i,i<ops.size->listed.getD i false=false-> ∃j,j∈Region.ready .any ops listed:=by
  intro listed hsz i
  induction i using Nat.strongRecOn with
  | _ i ih=>
   intro hi hl;by_cases h: ∃e∈(ops[i]).after.toList,Region.binds .any e=true/\listed.getD e.on false=false
   .obtain ⟨e,he,hb,hf⟩:=h;have hlt:=g.chk.ord i ops[i] (by simp [hi]) e he hb
    grind
   .refine ⟨i,mem_ready.2 ⟨?_,ops[i],by simp [hi],fun e he hb=> ?_⟩⟩;all_goals grind
 intro fuel
 induction fuel with
 | zero=>
  intro listed p ρ a w hsz hcnt I;have eB: ∀i,i<ops.size->listed.getD i false=true:=by simp_all
  refine ⟨?_,rfl,I.defers,ρ,?_,?_,?_⟩
  .simp_all [Region.ready]
  .refine ⟨I.tsz,fun t=> ?_,fun i hi=> ?_⟩
   .by_cases hw: ∃(i:Nat) (x:Oper),ops[i]? =some x/\x.dst=some t
    .obtain ⟨i,x,hx,hd⟩:=hw;have hil:i<ops.size:=(AI.1 hx).1;obtain ⟨k,hk,rfl⟩:=t0b hil;have hst:(f ops.size).tmp t=(f (k+1)).tmp t:=g.slot_stays (by omega) (Ar _) fun q y h1 h2 hy hyd=>by
      have e:CH ops k=CH ops q:=x3o g hx hy hd hyd;rcases FE (ops:=ops) (k1:=k) (k2:=q) (by omega) h2 with ⟨h3,h4⟩ | ⟨_,h4⟩;all_goals grind
     show Yv ρ ((f ops.size).tmp t) _;rw [hst];exact I.done k x t hk hx (eB _ hil) hd
    .have hst:(f ops.size).tmp t=(f 0).tmp t:=g.slot_stays (Ay _) (Ar _) fun q y _ h2 hy hyd=>hw ⟨_,y,hy,hyd⟩;show Yv ρ ((f ops.size).tmp t) _;rw [hst,g.f0];exact I.undone t fun i x hx _ hd=>hw ⟨i,x,hx,hd⟩
   .have hst:(f ops.size).tmp i=(f 0).tmp i:=g.slot_stays (Ay _) (Ar _) fun q y _ h2 hy hyd=>by obtain ⟨o,ho,s⟩:=g.step' h2;rw [hy] at ho;obtain rfl:=Ag ho;exact absurd hi (Nat.not_le_of_lt (s.slot i hyd))
    show (f ops.size).tmp i=_;rw [hst,g.f0];exact hout i hi
  .obtain ⟨e1,e2⟩:=g.mem_stays I.ple (Ar _) fun k o h1 h2 ho=>by
    rcases Ni z o with h | h | h | h
    .exact .inl h
    .exact .inr h
    .have:=I.past k o h2 ho h;omega
    .have:=(I.chain k o h2 ho h).1 (eB _ (u5p h2));omega
   rw [e1,e2];exact I.rel
  .obtain ⟨e1,e2⟩:=g.mem_stays I.ple (Ar _) fun k o h1 h2 ho=>by
    rcases Ni z o with h | h | h | h
    .exact .inl h
    .exact .inr h
    .have:=I.past k o h2 ho h;omega
    .have:=(I.chain k o h2 ho h).1 (eB _ (u5p h2));omega
   rw [e1,e2];exact I.ev
 | succ fuel ih=>
  intro listed p ρ a w hsz hcnt I;refine ⟨fun hr=> ?_,fun i hi=> ?_⟩
  .exfalso;have: ∃i,i<ops.size/\listed.getD i false=false:=by
    have fD:0<(List.range ops.size).countP (fun i=> !listed.getD i false):=(by omega);obtain ⟨i,hi,h⟩:=List.countP_pos_iff.1 fD
    grind
   grind
  .obtain ⟨hun,o,ho,hafter⟩:=mem_ready.1 hi;have hil:i<ops.size:=(AI.1 ho).1;obtain ⟨k,hk,rfl⟩:=t0b hil;have hil2:CH ops k<listed.size:=by omega
   have hns:listed.getD (CH ops k) false=false:=by grind
   have dI:HR (fun i=>listed.getD i false) o:=fun e he hb=>hafter e (Array.mem_toList_iff.1 he) hb;have hS: ∀j,(listed.setIfInBounds (CH ops k) true).getD j false=(listed.getD j false||j == CH ops k):=by
    intro j;by_cases hj:j=CH ops k
    .simp_all
    .have:(j == CH ops k)=false:=(by grind);simp [this,Array.getElem?_setIfInBounds_ne (Ne.symm hj)]
   have hcnt':(List.range ops.size).countP (fun i=> !(listed.setIfInBounds (CH ops k) true).getD i false)=fuel:=by
    have:=z3z (fun i=> !listed.getD i false) (fun i=> !(listed.setIfInBounds (CH ops k) true).getD i false) (CH ops k) ops.size (fun j hj=>by
     grind) (by grind) (by rw [hS];simp) hil
    omega
   have fE:(listed.setIfInBounds (CH ops k) true).size =ops.size:=by grind
   have eR:=I.closes ho dI hS;have undone: ∀{j:Nat},(listed.setIfInBounds (CH ops k) true).getD j false=false->listed.getD j false=false:=fun {j} h=>by
    grind
   have calms: ∀(k1 q:Nat) (o1 x:Oper),k1<q->q<p->q<ops.size->ops[CH ops k1]? =some o1->ops[CH ops q]? =some x->(listed.setIfInBounds (CH ops k) true).getD (CH ops k1) false=false->EM z x->Gd z ops (CH ops k1) (CH ops q)=true->u5m z o.op=true:=fun k1 q o1 x c1 c2 c3 c4 c5 c6 c7 c8=>by
    have hq:=(I.chain q x c3 c5 c7).2 c2;have h8:=Au.1 c8 (CH ops k) (AP.2 hil);rw [ho] at h8;simp only [BD] at h8;rcases h8 with h8 | h8 | h8 | h8
    .exact h8
    .simp_all
    .have:=(g.chk.bits _ _ c5 _ h8).2 _ I.closed fun e he hb=>I.closed _ _ c5 hq e he hb
     grind
    .have:=(g.chk.bits _ _ ho _ h8).2 _ I.closed dI
     grind
   have notcalm: ∀{α:Prop},Xf z o.op≠ .pure ->Xf z o.op≠ .read ->u5m z o.op=true->α:=fun h1 h2 h=>by
    grind [u5m]
   obtain ⟨o',ho',s⟩:=g.step' hk;rw [ho] at ho';obtain rfl:=Ag ho';have hops:=I.operands g hk ho hns dI;have hguard: ∀d,Uf ops o=some d->Yv ρ ((f k).tmp d) (a.tmps.getD d undef):=fun d hd=>I.looks g hk ho hns dI (x3b hd);have hob:=g.ob (k+1) (by omega);have finish: ∀{q:Prop},(if Region.wanted o (yielded ops a.tmps) then o.wp P a w (wpAny P .any ops (Ir D ρ0 cx st (f ops.size) w0) fuel (listed.setIfInBounds (CH ops k) true)) (Ir D ρ0 cx st (f ops.size) w0) else wpAny P .any ops (Ir D ρ0 cx st (f ops.size) w0) fuel (listed.setIfInBounds (CH ops k) true) (a.put o.dst undef) w)->
     wpOp P ops (Ir D ρ0 cx st (f ops.size) w0) (CH ops k) (wpAny P .any ops (Ir D ρ0 cx st (f ops.size) w0) fuel (listed.setIfInBounds (CH ops k) true)) a w:=by
    grind [wpOp]
   have calm:(Xf z o.op=.pure \/Xf z o.op=.read)->wpOp P ops (Ir D ρ0 cx st (f ops.size) w0) (CH ops k) (wpAny P .any ops (Ir D ρ0 cx st (f ops.size) w0) fuel (listed.setIfInBounds (CH ops k) true)) a w:=by
    intro hkd;obtain ⟨memC,hrelC,hagC⟩: ∃memC,CF ρ memC (f p).next w/\ ∀t y b ab,o.op=.load t y->Eh o.op (f k).eval =some b->Yn (f k).mem b=some ab->Yn memC b=some ab:=by
     by_cases hl: ∃t y b ab q x,o.op=.load t y/\Eh o.op (f k).eval =some b/\Yn (f k).mem b=some ab/\k<=q/\q<p/\ops[CH ops q]? =some x/\EM z x/\Gd z ops (CH ops k) (CH ops q)=true/\Ed x.op (f q).eval (f q).mem =some b
     .obtain ⟨t,y,b,ab,q0,x0,hop,hrd,hm,l1,l2,l3,l4,l5,l6⟩:=hl;have fI:Xf z o.op=.read :=by rw [hop];rfl
      obtain ⟨_,b2⟩:=I.between g hk ho hns dI fI hrd;have hbn:b<(f k).next :=by
       rcases A7 b (f k).next with h | h
       .exact h
       .rw [g.bd hbd (by omega) b h] at hm;cases hm
      have first: ∀n q x,q<=n->k<=q->q<p->ops[CH ops q]? =some x->EM z x->Gd z ops (CH ops k) (CH ops q)=true->Ed x.op (f q).eval (f q).mem =some b->
        ∃q x,k<=q/\q<p/\ops[CH ops q]? =some x/\EM z x/\Gd z ops (CH ops k) (CH ops q)=true/\Ed x.op (f q).eval (f q).mem =some b/\ ∀q' x',k<=q'->q'<q->ops[CH ops q']? =some x'-> ¬(EM z x'/\Gd z ops (CH ops k) (CH ops q')=true/\Ed x'.op (f q').eval (f q').mem =some b):=by
       intro n
       induction n with
       | zero=>grind
       | succ n ih=>
        intro q x h0 h1 h2 h3 h4 h5 h6;by_cases he: ∃q' x',k<=q'/\q'<q/\ops[CH ops q']? =some x'/\EM z x'/\Gd z ops (CH ops k) (CH ops q')=true/\Ed x'.op (f q').eval (f q').mem =some b
        .obtain ⟨q',x',e1,e2,e3,e4,e5,e6⟩:=he;exact ih q' x' (by omega) e1 (by omega) e3 e4 e5 e6
        .exact ⟨q,x,h1,h2,h3,h4,h5,h6,fun q' x' e1 e2 e3 e4=>he ⟨q',x',e1,e2,e3,e4⟩⟩
      obtain ⟨q,x,h1,h2,h3,h4,h5,h6,h7⟩:=first q0 q0 x0 (Ar _) l1 l2 l3 l4 l5 l6
      have hple:=I.ple;have hne:k≠q:=fun e=>by
       rw [<-e,ho] at h3;obtain rfl:=Ag h3;rcases h4 with h | h <;> rw [fI] at h <;> cases h
      have hst:=g.blk_stays (x:=b) (a:=k) (b:=q) h1 (by omega) hbn fun q' x' e1 e2 e3=>by
       rcases b2 q' x' e1 (by omega) e3 with d | d | d | d | d | d;all_goals grind
      refine ⟨_,I.late k q o x b ab (by omega) h2 (by omega) ho h3 hns h4 h5 h6 (by grind),fun t' y' b' ab' hop' hrd' hm'=> ?_⟩
      grind [Yk]
     .refine ⟨(f p).mem,I.rel,fun t y b ab hop hrd hm=> ?_⟩;have fI:Xf z o.op=.read :=by rw [hop];rfl
      obtain ⟨b1,b2⟩:=I.between g hk ho hns dI fI hrd;have b2: ∀q x,k<=q->q<p->ops[CH ops q]? =some x->Nk z x\/Xf z x.op=.read \/(Xf z x.op=.call /\EJ ops (CH ops q)=true/\Ec Sp x.op (f q).eval ≠some b)\/(Xf z x.op=.chain /\EF x.op (f q).eval ≠some b)\/En z x:=fun q x e1 e2 e3=>by
       rcases b2 q x e1 e2 e3 with d | d | d | d | d | d;all_goals grind
      have hρ: ∃l,ρ b=some l:=by
       have:=hops y (by rw [hop];simp [Op.operands]);rw [hop] at hrd;simp only [Eh] at hrd;generalize a.eval y=uy at this;split at hrd
       .rename_i hy;rw [hy] at this;obtain rfl:=Ag hrd;cases this with
        | ptr _ _ l h=>grind
       .rename_i hy;rw [hy] at this;obtain rfl:=Ag hrd;cases this with
        | epa _ _ _ _ l h=>grind
       .cases hrd
      obtain ⟨l,hl⟩:=hρ;rcases Nat.le_total p k with hpk | hpk
      .have:=g.blk_stays (x:=b) hpk (by omega) (I.rel.dom b l hl) b1
       grind
      .have hbn:b<(f k).next :=by
        rcases A7 b (f k).next with h | h
        .exact h
        .rw [g.bd hbd (by omega) b h] at hm;cases hm
       have:=g.blk_stays (x:=b) hpk I.ple hbn b2
       grind
    refine finish (q:=True) (s.calm hob hkd ρ a w (f k).eval memC (f p).next I.tsz (fun _ _=>rfl) hguard hops hrelC hagC _ _ fun u dO=> ?_)
    .obtain ⟨d1,d2⟩:=I.slots g hk ho hns (CE.le_refl ρ) dO hS;refine ih _ p ρ _ w fE hcnt' ⟨eR,by rw [Act.put_defers'];exact I.defers,by cases h:o.dst <;> simp [Act.put,I.tsz],d1,d2,I.ple,I.past,fun q x hq hx hc=> ?_,I.rel,I.ev,fun k1 q o1 x b ab c1 c2 c3 c4 c5 c6=>I.late k1 q o1 x b ab c1 c2 c3 c4 c5 (undone c6),fun q x hq hx hnw hs=> ?_⟩
     .have hne:CH ops q≠CH ops k:=fun e=>by
       rw [e,ho] at hx;obtain rfl:=Ag hx;rcases hc with h | h <;> rcases hkd with h' | h' <;> rw [h] at h' <;> cases h'
      rw [hS]
      simpa [hne] using I.chain q x hq hx hc
     .rw [hS] at hs;simp only [A4] at hs;exact I.allocs q x hq hx hnw hs.1
   rcases Ni z o with (hkd | hkd) | hkd | hkd | hkd
   .grind
   ·-- a slice that is written out, as data
    refine finish (q:=True) (s.lit hob hkd ρ a w (f k).eval (f p).mem (f p).next I.tsz (fun _ _=>rfl) hguard hops I.rel _ _ fun ρ' u w' dO dT dK hev=> ?_);obtain ⟨d1,d2⟩:=I.slots g hk ho hns (hev cx.floor (f p).mem).ext dO hS;refine ih _ p ρ' _ w' fE hcnt' ⟨eR,by rw [Act.put_defers'];exact I.defers,by cases h:o.dst <;> simp [Act.put,I.tsz],d1,d2,I.ple,I.past,fun q x hq hx hc=> ?_,dT,I.ev.trans (hev _ _),fun k1 q o1 x b ab c1 c2 c3 c4 c5 c6 c7 c8=>notcalm (by grind) (by grind) (calms k1 q o1 x c1 c2 c3 c4 c5 c6 c7 c8),fun q x hq hx hnw hs=> ?_⟩
    .have hne:CH ops q≠CH ops k:=fun e=>by
      rw [e,ho] at hx;obtain rfl:=Ag hx;rcases hc with h | h <;> rw [h] at hkd <;> cases hkd
     rw [hS]
     simpa [hne] using I.chain q x hq hx hc
    .rw [hS] at hs;simp only [A4] at hs;obtain ⟨m1,m2,m3,m4⟩:=I.allocs q x hq hx hnw hs.1
     grind
   .grind
   ·-- a block is made
    have hgn:=g.chk.guard _ o ho hkd;obtain ⟨cells,ty,hm1,hn1,hborn⟩:=s.fresh hob hkd hgn;obtain ⟨l1,l2,l3,l4⟩:=I.allocs k o hk ho hkd hns;rw [hm1,Yk] at l4;obtain ⟨u,vs,el,hel,hvs,dB,dO⟩:=hborn ρ a w (f k).eval (fun _ _=>rfl) hops;have dT:=I.rel.birth l2 l3 l4 el hvs hel;refine finish (q:=True) ?_;rw [AJ (by unfold Region.wanted;rw [hgn])];unfold Oper.wp;rw [dB];have hle:ρ.le (Vb ρ (f k).next ⟨w.heap.size,0,cells.length,vs.size⟩):=JH l3;obtain ⟨d1,d2⟩:=I.slots g hk ho hns hle (u:=u) (fun d hd=>dO _ (by simp [Vb]) d hd) hS;have ev':Ev ρ0 (Vb ρ (f k).next ⟨w.heap.size,0,cells.length,vs.size⟩) cx.floor st.mem st.next (f p).mem (f p).next w0 {w with heap:=w.heap.push (.cells vs el)}:=by
     have e:=I.ev;refine ⟨CE.le_trans e.ext hle,fun b hb=> ?_,e.nxt,e.unborn,fun q ob hq hf=> ?_,fun b l hb hl=> ?_,?_,e.os,e.tape,e.output,e.still⟩
     .rw [<-e.new b hb];rw [Vt,AC (by omega)]
     .have:=e.frame q ob hq hf
      grind
     .rw [Vt] at hl;by_cases hbk:b=(f k).next
      .rw [AJ hbk] at hl;obtain rfl:=Ag hl;exact .inl e.size
      .rw [AC hbk] at hl;exact e.fresh b l hb hl
     .have:=e.size;simp;omega
    refine ih _ p _ _ _ fE hcnt' ⟨eR,by rw [Act.put_defers'];exact I.defers,by cases h:o.dst <;> simp [Act.put,I.tsz],d1,d2,I.ple,I.past,fun q x hq hx hc=> ?_,dT,ev',fun k1 q o1 x b ab c1 c2 c3 c4 c5 c6 c7 c8=>notcalm (by rcases hkd with h | h <;> rw [h] <;> exact fun h=>by cases h) (by rcases hkd with h | h <;> rw [h] <;> exact fun h=>by cases h) (calms k1 q o1 x c1 c2 c3 c4 c5 c6 c7 c8),fun q x hq hx hnw hs=> ?_⟩
    .have hne:CH ops q≠CH ops k:=fun e=>by
      rw [e,ho] at hx;obtain rfl:=Ag hx;rcases hc with h | h <;> rcases hkd with h' | h' <;> rw [h] at h' <;> cases h'
     rw [hS]
     simpa [hne] using I.chain q x hq hx hc
    .rw [hS] at hs;simp only [A4] at hs;obtain ⟨m1,m2,m3,m4⟩:=I.allocs q x hq hx hnw hs.1;refine ⟨m1,m2,?_,m4⟩;have hne:(f q).next ≠(f k).next :=by
      have hqk:q≠k:=fun e=>by grind
      have up: ∀q x,q<ops.size->ops[CH ops q]? =some x->En z x->(f (q+1)).next =(f q).next +1:=by intro q x hq hx hn;obtain ⟨x',hx',s'⟩:=g.step' hq;rw [hx] at hx';obtain rfl:=Ag hx';obtain ⟨_,_,_,h6,_⟩:=s'.fresh (g.ob _ (by omega)) hn (g.chk.guard _ x hx hn);exact h6
      rcases Bs q k with h | h | h
      .have h1:=up q x hq hx hnw;have h2:=g.next_le (a:=q+1) (b:=k) (by omega) (by omega);omega
      .grind
      .have h1:=up k o hk ho hkd;have h2:=g.next_le (a:=k+1) (b:=q) (by omega) (by omega);omega
     grind [Vt]
   ·-- the next one that may write
    obtain ⟨hpk,hch⟩:=I.next_chain g hk ho hns dI hkd;obtain ⟨e1,e2⟩:=g.mem_stays hpk (by omega) fun q x h1 h2 hx=>by
     rcases Ni z x with h | h | h | h
     .exact .inl h
     .exact .inr h
     .have:=I.past q x (by omega) hx h;omega
     .have:=(I.chain q x (by omega) hx h).1 ((hch q x (by omega) hx h).2 h2);omega
    have cZ:CF ρ (f k).mem (f k).next w:=by rw [e1,e2];exact I.rel
    refine finish (q:=True) (s.does hob hkd ρ a w (f k).eval I.tsz (fun _ _=>rfl) hguard hops cZ _ _ fun ρ' u w' dO dT hev hlate=> ?_);obtain ⟨d1,d2⟩:=I.slots g hk ho hns hev.ext dO hS;have hev0:=hev;rw [e1,e2] at hev;refine ih _ (k+1) ρ' _ w' fE hcnt' ⟨eR,by rw [Act.put_defers'];exact I.defers,by cases h:o.dst <;> simp [Act.put,I.tsz],d1,d2,by omega,fun q x hq hx hc=>by have:=I.past q x hq hx hc;omega,fun q x hq hx hc=> ?_,dT,I.ev.trans hev,fun k1 q o1 x b ab c1 c2 c3 c4 c5 c6 c7 c8 c9 c10=> ?late,fun q x hq hx hnw hs=> ?_⟩
    case late=>
     by_cases hqk:q=k
     .subst hqk;rw [ho] at c5;obtain rfl:=Ag c5;exact w8d cZ dT hev0 c10 fun l hl=>hlate b ab l c9 c10 hl
     .have hqs:=(hch q x c3 c5 c7).2 (by omega);have hqp:=(I.chain q x c3 c5 c7).1 hqs;exact notcalm (by rcases hkd with h | h <;> rw [h] <;> exact fun h=>by cases h) (by rcases hkd with h | h <;> rw [h] <;> exact fun h=>by cases h) (calms k1 q o1 x c1 hqp c3 c4 c5 c6 c7 c8)
    .rw [hS];by_cases hqk:q=k
     .grind
     .have hne:CH ops q≠CH ops k:=fun e=>by
       rcases A7 q k with h | h
       .grind
       .rcases FE (ops:=ops) (k1:=k) (k2:=q) (by omega) hq with ⟨h3,h4⟩ | ⟨_,h4⟩;all_goals grind
      have:=hch q x hq hx hc;simp only [beq_eq_false_iff_ne.2 hne,BY];rw [this];omega
    .rw [hS] at hs;simp only [A4] at hs;obtain ⟨m1,m2,m3,m4⟩:=I.allocs q x hq hx hnw hs.1;obtain ⟨x',hx',s'⟩:=g.step' hq;rw [hx] at hx';obtain rfl:=Ag hx';obtain ⟨cells,ty,hm1,_,_⟩:=s'.fresh (g.ob _ (by omega)) hnw (g.chk.guard _ x hx hnw);have e0:Yn (f (q+1)).mem (f q).next =some ⟨cells,ty,none⟩:=by rw [hm1,Yk]
     rw [e0] at m4;refine ⟨m1,AY m2 hev.nxt,by rw [hev.new _ m2];exact m3,by rw [e0];exact hev.unborn _ m2 m3 _ _ m4⟩
theorem v6s (g:DW Sp z P ops cx st f) {ρ:CE} {a:Act} {w:World} (hd:a.defers=D) (dD:Vy ρ st.env cx.n a.tmps) (cZ:CF ρ st.mem st.next w):
  ∃p,Inv z P D ops cx st f ρ w (fun i=>(Array.replicate ops.size false).getD i false) p ρ a w:=by
 have hf: ∀i,(Array.replicate ops.size false).getD i false=false:=fun i=>by
  by_cases h:i<ops.size;all_goals simp_all
 have hA: ∃p,p<=ops.size/\(∀k o,k<ops.size->ops[CH ops k]? =some o->En z o->k<p)/\(p=0\/ ∃o,ops[CH ops (p - 1)]? =some o/\En z o):=by
  have: ∀n,n<=ops.size-> ∃p,p<=n/\(∀k o,k<n->ops[CH ops k]? =some o->En z o->k<p)/\(p=0\/ ∃o,ops[CH ops (p - 1)]? =some o/\En z o):=by
   intro n
   induction n with
   | zero=>grind
   | succ n ih=>
    intro hn;obtain ⟨p,hp,hk,hlast⟩:=ih (by omega);have hlt:=u5p (ops:=ops) (k:=n) (by omega);have hx:ops[CH ops n]? =some ops[CH ops n]:=(by simp [hlt]);by_cases e:En z ops[CH ops n]
    .exact ⟨n+1,Ar _,fun k o h _ _=>h,.inr ⟨_,hx,e⟩⟩
    .refine ⟨p,by omega,fun k o h ho hnw=> ?_,hlast⟩;by_cases hkn:k=n
     .grind
     .exact hk k o (by omega) ho hnw
  simp_all
 obtain ⟨p,hp,hpk,hlast⟩:=hA;have noch: ∀k o,k<p->ops[CH ops k]? =some o-> ¬EM z o:=by
  intro k o hk ho hc;rcases hlast with h0 | ⟨x,hx,hnw⟩
  .omega
  .by_cases hkp:k=p - 1
   .rw [<-hkp,ho] at hx;obtain rfl:=Ag hx;rcases hc with h | h <;> rcases hnw with h' | h' <;> rw [h] at h' <;> cases h'
   .have nal:isAlloc ops (CH ops k)=false:=by
     cases e:isAlloc ops (CH ops k) with
     | false=>rfl
     | true=>
      have:=(Jk (z:=z) ho).1 e;rcases hc with h | h <;> rw [h] at this <;> cases this
    rcases FE (ops:=ops) (k1:=k) (k2:=p - 1) (by omega) (by omega) with ⟨h3,_⟩ | ⟨h3,h4⟩
    .grind
    .rw [nal] at h3;rcases hnw with hnw | hnw
     .grind [Jk]
     .exact g.chk.birth _ _ _ _ h4 ho hx hnw hc
 have stepAt: ∀k,k<p->((f (k+1)).mem =(f k).mem /\(f (k+1)).next =(f k).next)\/ ∃cells ty,(f (k+1)).mem =Wv (f k).mem (f k).next (some ⟨cells,ty,none⟩)/\(f (k+1)).next =(f k).next +1:=by
  intro k hk;obtain ⟨o,ho,s⟩:=g.step' (k:=k) (by omega);rcases Ni z o with h | h | h | h
  .exact .inl (s.stay (by rcases h with h | h <;> simp [h]))
  .exact .inl (s.stay (.inr (.inl h)))
  .obtain ⟨cells,ty,h1,h2,_⟩:=s.fresh (g.ob _ (by omega)) h (g.chk.guard _ o ho h)
   grind
  grind
 have start: ∀k,k<=p->CF ρ (f k).mem (f k).next w/\Ev ρ ρ cx.floor st.mem st.next (f k).mem (f k).next w w:=by
  intro k
  induction k with
  | zero=>intro _;rw [g.f0];exact ⟨cZ,Ev.refl _ _ _ _ _ cZ.dom⟩
  | succ k ih=>
   intro hk;obtain ⟨hr,he⟩:=ih (by omega);rcases stepAt k (by omega) with ⟨h3,h4⟩ | ⟨cells,ty,h3,h4⟩
   .grind
   .rw [h3,h4];refine ⟨hr.unborn _,he.trans ⟨CE.le_refl _,fun _ _=>rfl,B8 _,fun b hb _ cs ty hm=>by grind [Zv],fun _ _ h _=>h,fun b l hb hl=>by have:=hr.dom b l hl;omega,Ar _,rfl,rfl,rfl,fun _ _=>rfl⟩⟩
 have later: ∀k k',(f (k+1)).next =(f k).next +1->k<k'->k'<=p->(f k).next <(f k').next /\Yn (f k').mem (f k).next =Yn (f (k+1)).mem (f k).next :=by
  intro k k' hk1 hk
  induction k' with
  | zero=>omega
  | succ k' ih=>
   intro hk';by_cases e:k=k'
   .grind
   .obtain ⟨h1,h2⟩:=ih (by omega) (by omega);rcases stepAt k' (by omega) with ⟨h3,h4⟩ | ⟨cells,ty,h3,h4⟩;all_goals grind [Zv]
 obtain ⟨hrp,hep⟩:=start p (Ar _);refine ⟨p,?_,hd,dD.size,?_,?_,hp,hpk,?_,hrp,hep,fun k q o x b ab _ hqp _ _ hx _ hc=>absurd hc (noch q x hqp hx),?_⟩
 .intro j o _ hs;grind
 .grind
 .intro t _;exact dD.get t
 .grind
 .intro k o hk ho hnw _;have hkp:k<p:=hpk k o hk ho hnw;obtain ⟨o',ho',s⟩:=g.step' (k:=k) hk;rw [ho] at ho';obtain rfl:=Ag ho';obtain ⟨cells,ty,h3,h4,_⟩:=s.fresh (g.ob _ (by omega)) hnw (g.chk.guard _ o ho hnw);obtain ⟨h5,h6⟩:=later k p h4 hkp (Ar _);have hge:st.next<=(f k).next :=by have:=g.next_le (a:=0) (b:=k) (Ay _) (by omega);rw [g.f0] at this;exact this
  refine ⟨hge,h5,?_,h6⟩;cases e:ρ (f k).next with
  | none=>rfl
  | some l=>have:=cZ.dom _ l e;omega
theorem y0j {S:CB} {R:CL} (hN:ER P) (hS:Zw P S) (hRI:Er R) (hR:G5 P R) {st':St} (hcx:cx.floor<=st.next) (dU:N1 z ops=true)
  (h:Rf z P S R ops cx (JB ops) [] st=some st') (ho:st'.ob=true) {ρ:CE} {a:Act} {w:World} (hd:a.defers=D) (dD:Vy ρ st.env cx.n a.tmps) (cZ:CF ρ st.mem st.next w):
  wpAny P .any ops (Ir D ρ cx st st' w) ops.size (Array.replicate ops.size false) a w:=by
 obtain ⟨f,f0,fn,fs,_,fp⟩:=z3r (JB ops) [] st st' h;have dA:(JB ops).length =ops.size:=by simp [JB,Xr]
 rw [dA] at fn;have dZ: ∀(k:Nat) (hk:k<(Yb ops).length),cx.floor<=(f k).next ->u5u S z P ops cx (EJ ops (Yb ops)[k],ops.getD (Yb ops)[k] default) (f k) (f (k+1)):=by
  grind [JB,w7r]
 have hnx: ∀k,k<=ops.size->cx.floor<=(f k).next :=by
  intro k
  induction k with
  | zero=>grind
  | succ k ih=>intro hk;have hc:=ih (by omega);exact AG hc (dZ k (by rw [Xr];omega) hc).inv.nxt
 have hob: ∀k,k<=ops.size->(f (ops.size - k)).ob =true:=by
  intro k
  induction k with
  | zero=>grind
  | succ k ih=>
   intro hk;have hk':ops.size - (k+1)<(Yb ops).length :=by rw [Xr];omega
   have s:=dZ _ hk' (hnx _ (by omega));refine s.inv.ob ?_
   grind
 have g:DW S z P ops cx st f:=⟨z8p dU,f0,hcx,fun k hk=>by
  have:=hob (ops.size - k) (by omega);rwa [show ops.size - (ops.size - k)=k by omega] at this,fun k hk=>dZ k hk (hnx k (by rw [Xr] at hk;omega)),fun q k hq hk=>by
   have:=fp q k hq (by grind [Xr]);simp_all [JB]⟩
 obtain ⟨p,I⟩:=v6s g hd dD cZ;have:=u5g g dD.out cZ.bd ops.size (Array.replicate ops.size false) p ρ a w (by simp) (by
  rw [List.countP_eq_length.2];all_goals simp_all) I
 grind
theorem x0k {S:CB} {R:CL} (hRI:Er R): ∀(l:List (Bool×Oper)) (st st':St),ZY P S R ops cx l st=some st'->Xd cx.floor st st'
 | [],st,st',h=>by
  have h:some st=some st':=h
  grind [Xd.refl]
 | x::l,st,st',h=>by
  rw [y6w,Option.bind_eq_some_iff] at h;obtain ⟨st1,h1,h2⟩:=h;refine Xd.trans ?_ (x0k hRI l st1 st' h2);unfold HW at h1;split at h1
  .cases h1
  .rename_i st2 hw;obtain ⟨w1,w2,w3⟩:=Wc hw;refine (Xd.same w1 w2 fun h=>(w3 h).1).trans ?_;unfold N4 at h1;split at h1
   .split at h1
    .rename_i st3 ho;obtain ⟨_,e2,e3,e4⟩:=Wu ho;obtain ⟨p1,p2,p3,_⟩:=Wt h1;exact (Xd.same e2 e3 fun h=>(e4 h).2).trans (Xd.same p1 p2 fun h=>by rw [<-p3];exact h)
    .cases h1
   .split at h1
    .rename_i v st3 he;obtain ⟨p1,p2,p3,_⟩:=Wt h1;exact (y8t hRI he).1.trans (Xd.same p1 p2 fun h=>by rw [<-p3];exact h)
    .cases h1
  .rename_i st2 hw;obtain ⟨w1,w2,w3⟩:=Wc hw;obtain ⟨p1,p2,p3,_⟩:=Wt h1;exact (Xd.same w1 w2 fun h=>(w3 h).1).trans (Xd.same p1 p2 fun h=>by rw [<-p3];exact h)
theorem v3j {S:CB} {R:CL} (hRI:Er R) {x:Bool×Oper} {st st':St} (h:N6 z P S R ops cx x st=some st'):Xd cx.floor st st':=by
 unfold N6 at h;cases hz:Nc z x.2.op with
 | false=>
  rw [hz,Aa] at h;cases hz2:isBirth z x.2.op with
  | true=>
   rw [hz2,Ab] at h;split at h
   .cases h
   .rename_i st2 hw;obtain ⟨w1,w2,w3⟩:=Wc hw;unfold y8g at h;split at h
    .split at h
     .obtain ⟨p1,p2,p3,_⟩:=Wt h;exact ((Xd.same w1 w2 fun h=>(w3 h).1).trans (Xd.new _ _ _)).trans (Xd.same p1 p2 fun h=>by grind)
     .cases h
    .cases h
   .rename_i st2 hw;obtain ⟨w1,w2,w3⟩:=Wc hw
    grind [Wt,Xd.same]
  | false=>rw [hz2,Aa] at h;exact x0k hRI [x] st st' (by rw [y6w,h];rfl)
 | true=>
  rw [hz,Ab] at h;split at h
  .cases h
  .rename_i st2 hw;obtain ⟨w1,w2,w3⟩:=Wc hw
   grind [w1v,Wt,Xd.same]
  .rename_i st2 hw;obtain ⟨w1,w2,w3⟩:=Wc hw
   grind [Wt,Xd.same]
theorem y6x {S:CB} {R:CL} (hRI:Er R) (l:List (Nat×Bool×Oper)) (acc:List Dg) (st st':St) (h:Rf z P S R ops cx l acc st=some st'):Xd cx.floor st st':=by
 obtain ⟨f,f0,fn,fs,_,_⟩:=z3r l acc st st' h;have: ∀k,k<=l.length->Xd cx.floor st (f k):=by
  intro k
  induction k with
  | zero=>intro _;rw [f0];exact Xd.refl _ _
  | succ k ih=>
   intro hk;refine (ih (by omega)).trans ?_
   grind [v3j]
 grind
end
section
variable {P:Program}
theorem x5f {H:E8} {w:World} (hH: ∀k o,H k=some o->w.heap[k]? =some o) (hG:MP H):CF (DS H) .leaf 0 w:=
 ⟨(fun b l h=>by cases h),(fun b b' l l' h=>by cases h),(fun b l ab h=>by cases h),hH,(fun b l h=>by cases h),(fun b l h=>by cases h),(fun b _=>rfl),(fun j l h=>by cases h),hG⟩
structure Out (H:E8) (w:World) (ρ:CE) (v:B9) (u:Value) (w':World):Prop where
 val:Yv ρ v u
 le: ∀k o,H k=some o->ρ.fz k=some o
 old: ∀k o,ρ.fz k=some o->w'.heap[k]? =some o
 same: ∀k,k<w.heap.size->ρ.fz k=H k
 below:RowKit.Below w.heap.size w w'
theorem On {H:E8} {w w':World} {ρ:CE} {v:B9} {u:Value} {mem:CJ} {next floor:Nat} (hv:Yv ρ v u) (hr:CF ρ mem next w') (hev:Ev (DS H) ρ floor .leaf 0 mem next w w'):Out H w ρ v u w':=
 ⟨hv,hev.ext.2.1,hr.old,hev.still,hev.os,hev.tape,hev.output,hev.size,fun k hk=>by
  have:w.heap[k]? =some w.heap[k]:=by simp [hk]
  rw [this];exact hev.frame k _ this fun b l hl=>by cases hl⟩
def Ez :CB:=fun _=>none
theorem Zc :Zw P Ez:=fun f F h=>by cases h
end
end Go.Am
end
