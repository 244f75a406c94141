/- A part of a proof: several texts in one. -/
import Derived.Test.YthnnmgkacjjpeaaGreatDoorNh0
import Derived.IntWalk
set_option maxRecDepth 1000000
set_option maxHeartbeats 8000000
set_option linter.unusedVariables false
set_option linter.unusedSimpArgs false
noncomputable section
namespace Go.Am
open IntKind (wrap)
section
variable {P:Program} {ρ:BD}
theorem Kp {t u e:TypeId} {ut:TypeDesc} {i:TypeInfo} {type:TypeId} (hu:P.underlying t=some (.slice e)) (hut:P.underlying u=some ut) (hni: ∀k,ut≠ .int k) (hi:P.info? e=some i) {ts:List TypeId} {base:Option Addr} {len n c:Nat} {x:Value} {vs:Array Value} {xs:List Value} {w:World}
  (cC:(Builtin.lenOf x).run P w=.ok n w) (cS:(Builtin.firstCells i.size n x).run P w=.ok vs w) (cH:len+n<=c) {w':World}
  (hst: ∀a,base=some a->(storeCells (a.add (len*i.size)) vs.toList).run P w=.ok () w') (hno:base=none->w'=w):
  (Builtin.append_ (t::u::ts).toArray type ((.slice base len c)::x::xs).toArray).run P w=.ok (.slice base (len+n) c) w':=by
 cases base with
 | none=>obtain rfl:=hno rfl;simp [Builtin.append_,run_underlying hu,run_underlying hut,Zm hi,cC,cS,cH]
 | some a=>have:=hst a rfl;simp [Builtin.append_,run_underlying hu,run_underlying hut,Zm hi,cC,cS,cH,this]
theorem Jg {t u e:TypeId} {ut:TypeDesc} {i:TypeInfo} {type:TypeId} (hu:P.underlying t=some (.slice e)) (hut:P.underlying u=some ut) (hni: ∀k,ut≠ .int k) (hi:P.info? e=some i) {z:Value} (hz:i.zero=some z) {ts:List TypeId} {base:Option Addr} {len n c:Nat} {x:Value} {vs old:Array Value} {xs:List Value} {w:World}
  (cC:(Builtin.lenOf x).run P w=.ok n w) (cS:(Builtin.firstCells i.size n x).run P w.drew=.ok vs w.drew) (hold:(Builtin.firstCells i.size len (.slice base len c)).run P w.drew=.ok old w.drew)
  (cH:c<len+n) (cY:(len+n+1)*(i.bytes+1)<=1099511627776):
  ∃newCap,len+n<=newCap/\ ∃rest:Array Value,rest.size=(newCap - (len+n))*z.cells.size/\
  (Builtin.append_ (t::u::ts).toArray type ((.slice base len c)::x::xs).toArray).run P w=.ok (.slice (some ⟨w.heap.size,0,none⟩) (len+n) newCap) (w.drew.alloc (.cells (old++vs++rest) e)):=by
 have hmul:len+n+1<=(len+n+1)*(i.bytes+1):=Nat.le_mul_of_pos_right _ (by omega);have hr:=RG cY cH;have hr': ¬2 ^ 48<Builtin.nextslicecap (len+n) c*i.bytes:=hr;have hr'': ¬281474976710656<Builtin.nextslicecap (len+n) c*i.bytes:=hr;have h1: ¬len+n<=c:=by omega
 have h2: ¬(9223372036854775807<(len:Int)+(n:Int)):=by omega
 have hq:(Question.appendCap (len+n) c e).forced =false:=rfl;have hzero: ∀w,(zeroValue e).run P w=.ok z w:=fun w=>by simp [zeroValue,run_typeInfo w hi,hz]
 refine ⟨(Question.appendCap (len+n) c e).cut (w.tape w.drawn (Question.appendCap (len+n) c e)),by simp only [Question.cut];omega,Builtin.zeroCells z.cells ((Question.appendCap (len+n) c e).cut (w.tape w.drawn (Question.appendCap (len+n) c e)) - (len+n)),by simp [Builtin.zeroCells],?_⟩;have hty: ∀w,(typeInfo e).run P w=.ok i w:=fun w=>run_typeInfo w hi;simp [Builtin.append_,run_underlying hu,run_underlying hut,Zm hi,cC,h1,h2,hty,hr'',hq,cS,hold,hzero,newRow]
theorem Wx.append {a b:List BA} {us vs:Array Value} (h:Wx ρ a us) (k:Wx ρ b vs):Wx ρ (a++b) (us++vs):=by
 refine ⟨by simp [h.1,k.1],fun i h1 h2=> ?_⟩;by_cases hi:i<a.length
 .rw [Bb hi,Array.getElem_append_left (by rw [<-h.1];exact hi)];exact h.2 i hi (by rw [<-h.1];exact hi)
 .rw [A7 (by omega),Array.getElem_append_right (by rw [<-h.1];omega)];have e:=h.1;simp only [e];exact k.2 (i - us.size) (by grind) (by grind)
theorem K2 {st:St} {w:World} (h:BF ρ st.mem st.next w) (floor:Nat) {cs:List BA} {vs:Array Value} (hr:Wx ρ cs vs) (rest:Array Value) (ty el:TypeId) (v:BA) (u:Value)
  (cQ: ∀ρ',ρ' st.next=some ⟨w.heap.size,0,cs.length,vs.size+rest.size⟩->Zb ρ' v u) (hel:el=ty:=by rfl):
  CK ρ floor st (BY st cs ty) v w (Xr ρ st.next ⟨w.heap.size,0,cs.length,vs.size+rest.size⟩) u (w.drew.alloc (.cells (vs++rest) el)):=by
 have hd:BF ρ st.mem st.next w.drew:=h.drawn _
 have:=Hv hd floor cs ty (vs++rest) el (by rw [hr.1];simp) (fun i h1 h2=>by
  rw [Array.getElem_append_left (by rw [<-hr.1];exact h1)];exact hr.2 i h1 (by rw [<-hr.1];exact h1)) v u (fun ρ' hρ'=>cQ ρ' (by simp_all)) hel
 simp only [Array.size_append] at this;exact ⟨this.val,this.rel,this.ev.drawn⟩
theorem Vr {α:Type} {c:Bool} {x:Option α} {y:α} (h:(bif c then x else none)=some y):c=true/\x=some y:=by grind
structure L3 (P:Program) (ρ:BD) (t u e:TypeId) (i:TypeInfo) (z:Value) (ux:Value) (n:Nat) (new:List BA) (vs:Array Value) (w:World):Prop where
 rel:Wx ρ new vs
 hin: ∀{type:TypeId} {ts:List TypeId} {base:Option Addr} {len c:Nat} {xs:List Value},(n=0\/(n+1)*(i.bytes+1)<=1099511627776)->len+n<=c-> ∀{w':World},(∀a,base=some a->(storeCells (a.add (len*i.size)) vs.toList).run P w=.ok () w')->(base=none->w'=w)->
  (Builtin.append_ (t::u::ts).toArray type ((.slice base len c)::ux::xs).toArray).run P w=.ok (.slice base (len+n) c) w'
 hnew: ∀{type:TypeId} {ts:List TypeId} {base:Option Addr} {len c:Nat} {xs:List Value} {old:Array Value},(Builtin.firstCells i.size len (.slice base len c)).run P w.drew=.ok old w.drew->c<len+n->(len+n+1)*(i.bytes+1)<=1099511627776->
  ∃newCap,len+n<=newCap/\ ∃rest:Array Value,rest.size=(newCap - (len+n))*z.cells.size/\
   (Builtin.append_ (t::u::ts).toArray type ((.slice base len c)::ux::xs).toArray).run P w=.ok (.slice (some ⟨w.heap.size,0,none⟩) (len+n) newCap) (w.drew.alloc (.cells (old++vs++rest) e))
theorem Og {n:Int} {bytes:Nat} (h0:0<=n) (h:n.toNat=0\/(n.toNat+1)*(bytes+1)<=1099511627776):IntKind.i64.wrap n=n/\n*(bytes:Int)<=281474976710656:=by
 grind [IntWalk.i64_in]
theorem Wt {mem:BH} {next:Nat} {w:World} (h:BF ρ mem next w) {t u e:TypeId} {ut:TypeDesc} {i:TypeInfo} {z:Value} {zero:List BA} {x:BA} {ux:Value} {n:Nat} {new:List BA} (hu:P.underlying t=some (.slice e)) (hut:P.underlying u=some ut) (hi:P.info? e=some i) (hz:i.zero=some z)
  (hzr:Wx ρ zero z.cells) (hzl:zero.length=i.size) (hc:We mem i.size zero ut x=some (n,new)) (hx:Zb ρ x ux) (hnl:new.length=n*i.size): ∃vs,L3 P ρ t u e i z ux n new vs w:=by
 unfold We at hc;split at hc
 .rename_i kt;split at hc
  .rename_i k m;obtain ⟨h0,hc⟩:=Vr hc;have h0:=AA h0;simp only [Ab,Aa] at hc;obtain ⟨rfl,rfl⟩:=hc;cases hx;have hzs:z.cells.size=i.size:=by rw [<-hzr.1];exact hzl
   refine ⟨Builtin.zeroCells z.cells m.toNat,?_,?_,?_⟩
   .exact Hp hzr m.toNat (m.toNat*z.cells.size) (by rw [hzr.1])
   .intro type ts base len c xs hr cH w' hst hno;obtain ⟨hw,hb⟩:=Og h0 hr;have hb': ¬281474976710656<m*(i.bytes:Int):=(by omega);have hlt: ¬m<0:=(by omega);have hzv: ∀w,(zeroValue e).run P w=.ok z w:=fun w=>by simp [zeroValue,run_typeInfo w hi,hz]
    have hty: ∀w,(typeInfo e).run P w=.ok i w:=fun w=>run_typeInfo w hi;by_cases hz0:m.toNat*i.size=0
    .have hze:Builtin.zeroCells z.cells m.toNat= #[]:=(by simp [Builtin.zeroCells,hzs,hz0]);rw [hze] at hst;cases base with
     | none=>obtain rfl:=hno rfl;simp [Builtin.append_,run_underlying hu,run_underlying hut,Zm hi,asInt,asIntOf,hw,hlt,hty,hb',cH,hz0]
     | some a=>have:=hst a rfl;simp only [] at this;simp [Builtin.append_,run_underlying hu,run_underlying hut,Zm hi,asInt,asIntOf,hw,hlt,hty,hb',cH,hz0,this]
    .cases base with
     | none=>obtain rfl:=hno rfl;simp [Builtin.append_,run_underlying hu,run_underlying hut,Zm hi,asInt,asIntOf,hw,hlt,hty,hb',cH,hz0,hzv]
     | some a=>have:=hst a rfl;simp [Builtin.append_,run_underlying hu,run_underlying hut,Zm hi,asInt,asIntOf,hw,hlt,hty,hb',cH,hz0,hzv,this]
   .intro type ts base len c xs old hold cH cY;have hr:m.toNat=0\/(m.toNat+1)*(i.bytes+1)<=1099511627776:=.inr (AE (Av _ (by omega)) cY);obtain ⟨hw,hb⟩:=Og h0 hr;have hb': ¬281474976710656<m*(i.bytes:Int):=(by omega);have hlt: ¬m<0:=(by omega);have hmul:len+m.toNat+1<=(len+m.toNat+1)*(i.bytes+1):=Nat.le_mul_of_pos_right _ (by omega);have hr0:=RG cY cH;have hr'': ¬281474976710656<Builtin.nextslicecap (len+m.toNat) c*i.bytes:=hr0;have h1: ¬len+m.toNat<=c:=(by omega);have h2: ¬(9223372036854775807<(len:Int)+(m.toNat:Int)):=(by omega);have h2': ¬(9223372036854775807<(len:Int)+max m 0):=(by omega);have hq:(Question.appendCap (len+m.toNat) c e).forced =false:=rfl;have hzv: ∀w,(zeroValue e).run P w=.ok z w:=fun w=>by simp [zeroValue,run_typeInfo w hi,hz]
    have hty: ∀w,(typeInfo e).run P w=.ok i w:=fun w=>run_typeInfo w hi;refine ⟨(Question.appendCap (len+m.toNat) c e).cut (w.tape w.drawn (Question.appendCap (len+m.toNat) c e)),by simp only [Question.cut];omega,Builtin.zeroCells z.cells ((Question.appendCap (len+m.toNat) c e).cut (w.tape w.drawn (Question.appendCap (len+m.toNat) c e)) - (len+m.toNat)),by simp [Builtin.zeroCells],?_⟩;by_cases hz0:m.toNat*i.size=0
    .have hze:Builtin.zeroCells z.cells m.toNat= #[]:=(by simp [Builtin.zeroCells,hzs,hz0]);simp [Builtin.append_,run_underlying hu,run_underlying hut,Zm hi,asInt,asIntOf,hw,hlt,hb',h1,h2,h2',hty,hr'',hq,hold,hzv,newRow,hz0,hze]
    .simp [Builtin.append_,run_underlying hu,run_underlying hut,Zm hi,asInt,asIntOf,hw,hlt,hb',h1,h2,h2',hty,hr'',hq,hold,hzv,newRow,hz0]
  .cases hc
 .rename_i hni';have hni: ∀k,ut≠ .int k:=fun k hk=>hni' k hk;obtain ⟨cC,cS⟩:=Xt (P:=P) h hc hx hnl;obtain ⟨vs,hvs,hfc⟩:=cS n (Ak _);rw [AV (by omega)] at hvs;have dU:(Builtin.firstCells i.size n ux).run P w=.ok vs w:=hfc w.drawn;have hfc1:(Builtin.firstCells i.size n ux).run P w.drew=.ok vs w.drew:=hfc (w.drawn+1);exact ⟨vs,hvs,fun _ cH _ hst hno=>Kp hu hut hni hi (cC w) dU cH hst hno,fun hold cH cY=>Jg hu hut hni hi hz (cC w) hfc1 hold cH cY⟩
theorem QJ {w:World} {x:Obj} {n:Nat} {k:Nat} {o:Obj} (h:w.heap[k]? =some o):(World.alloc {w with drawn:=n} x).heap[k]? =some o:=by
 have:k<w.heap.size:=(As.1 h).1;show (w.heap.push x)[k]? =some o
 grind
theorem Tl {w:World} {k:Nat} {cur:Array Value} {el:TypeId} {vs:List Value} {m:Nat} (hw:w.heap[k]? =some (.cells cur el (0,0))) (hm:m+vs.length<=cur.size):
  ∃cs1,(w.setRow k (cur.toList.take m++vs++cur.toList.drop (m+vs.length)).toArray).heap[k]? =some (.cells cs1 el (0,0))/\cs1.size=cur.size/\ ∀j,j<m->cs1[j]? =cur[j]? :=by
 have hc:cur.toList.length=cur.size:=Array.length_toList;refine ⟨_,setRow_heap w k cur _ el (0,0) hw,by simp;omega,fun j hj=> ?_⟩
 grind
def NH (ρ:BD) (m:BH) (xs:List BA) (w w':World):Prop:=
 (∀(b off len z b2 o2 n2:Nat) (c2:DD) (r:List BA) (blk:BE) (l:BS),xs=.sl b off len (.un z)::.sl b2 o2 n2 c2::r->1<=n2->Zs m b=some blk->off+len*z=blk.cells.length->ρ b=some l->Xu ρ w' blk l)/\
 ∀r:List BA,xs=.nils ::r-> ∀(k:Nat) (o:Obj),w.heap[k]? =some o->w'.heap[k]? =some o
theorem TO {m:BH} {sz:Nat} {zero:List BA} {ut:TypeDesc} {b o n2:Nat} {c:DD} {n:Nat} {new:List BA} (h:We m sz zero ut (.sl b o n2 c)=some (n,new)):n=n2:=by
 have key:Yj m sz (.sl b o n2 c)=some (n,new)->n=n2:=fun h=>by
  simp only [Yj] at h;cases hm:Zs m b with
  | none=>grind
  | some blk=>rw [hm] at h;obtain ⟨_,h⟩:=Fk h;simp_all
 cases ut <;> first | exact key h | (cases h;done)
theorem Uk {st st' :St} {w:World} (h:BF ρ st.mem st.next w) (floor:Nat) {ts:Array TypeId} {type:TypeId} {xs:List BA} {us:Array Value} {v:BA} (ha:Ui P floor st ts.toList xs=some (v,st')) (hx:Xo (Zb ρ) xs us.toList) (hty:tyOk P st.mem ts.toList xs=true):
  ∃ρ' u w',(Builtin.append_ ts type us).run P w=.ok u w'/\CK ρ floor st st' v w ρ' u w'/\(st'.env=st.env/\st'.ob=st.ob)/\NH ρ st.mem xs w w':=by
 obtain ⟨ts⟩:=ts;obtain ⟨us⟩:=us;simp only at ha hx;unfold Ui at ha;split at ha
 .rename_i t tu tts s x txs;cases hx with
  | @cons _ su _ _ hs hx=>
   cases hx with
   | @cons _ ux _ uxs hx _=>
    split at ha
    .rename_i e ut hu hut;split at ha
     .rename_i i zero hi hz;split at ha
      .rename_i n new hcs;obtain ⟨i2,z,hi2,hz2,hzr,_⟩:=Xw (ρ:=ρ) hz;obtain rfl:i=i2:=by grind
       cases hc:(Nat.beq zero.length i.size&&Nat.beq new.length (n*i.size)&&Nat.ble 1 i.size&&new.all B4) with
       | false=>grind
       | true =>
        rw [hc,Ah] at ha;simp only [Ad] at hc;obtain ⟨⟨⟨hzl,hnl⟩,hsz⟩,hsc⟩:=hc;have hzl:=Ae hzl;have hnl:=Ae hnl;have hsz:=Af hsz;have hzs:z.cells.size=i.size:=by rw [<-hzr.1];exact hzl
        obtain ⟨vs,hF⟩:=Wt (P:=P) h hu hut hi hz2 hzr hzl hcs hx hnl;have hvs:=hF.rel;have hvsz:vs.size=n*i.size:=by rw [<-hvs.1];exact hnl
        have cR:=Zb.cells_oneCell hvs hsc;split at ha
        ·-- nil
         cases hs;cases hn0:Nat.beq n 0 with
         | true=>rw [hn0,Ah] at ha;simp only [Ab,Aa] at ha;obtain ⟨rfl,rfl⟩:=ha;have hn0:=Ae hn0;subst hn0;have cE:=hF.hin (type:=type) (ts:=tts) (base:=none) (len:=0) (c:=0) (xs:=uxs) (.inl rfl) (Ak _) (w':=w) (fun a e=>by cases e) (fun _=>rfl);exact ⟨ρ,_,w,cE,⟨.nils,h,Ev.refl _ _ _ _ _ h.dom⟩,⟨rfl,rfl⟩,(fun _ _ _ _ _ _ _ _ _ _ _ e=>by cases e),fun _ _ _ _ h=>h⟩
         | false=>
          rw [hn0,Ai] at ha;cases hrm:Nat.ble ((n+1)*(i.bytes+1)) Kx with
          | false=>grind
          | true=>
           rw [hrm,Ah] at ha;simp only [Ab,Aa] at ha;obtain ⟨rfl,rfl⟩:=ha;have hrm:=Af hrm;have hnpos:0<n:=by
            grind
           obtain ⟨newCap,cJ,rest,cU,cE⟩:=hF.hnew (type:=type) (ts:=tts) (base:=none) (len:=0) (c:=0) (xs:=uxs) (old:= #[]) (by simp [Builtin.firstCells]) (by omega) (by simpa [Kx] using hrm);simp only [Aj,Array.empty_append] at cE cJ cU;have hsum:vs.size+rest.size=newCap*i.size:=by rw [hvsz,cU,hzs,<-AH];grind
           refine ⟨_,_,_,cE,K2 h floor hvs rest e e _ _ (fun ρ' hρ'=> ?_),⟨rfl,rfl⟩,(fun _ _ _ _ _ _ _ _ _ _ _ e=>by cases e),fun _ _ k o h=>QJ h⟩;refine .sl _ 0 _ _ _ _ hρ' ?_ cJ
           grind [Us]
        ·-- a slice
         rename_i b off len cap;split at ha
         .rename_i blk hm;split at ha
          .rename_i old hold;cases hrm: !blk.isObj&&Nat.ble ((len+n+1)*(i.bytes+1)) Kx with
           | false=>grind
           | true =>
            rw [hrm,Ah] at ha;simp only [Ad,AO] at hrm;obtain ⟨hno,hrm⟩:=hrm;have hrm:=Af hrm;have hrn:n=0\/(n+1)*(i.bytes+1)<=1099511627776:=.inr (AE (Av _ (by omega)) hrm);cases hs with
            | sl _ _ _ _ l c hρ cJ hlc=>
             obtain ⟨hpold,holdl,holdle⟩:=Kn hold;have dH:=(h.blk b l blk hρ hm).at hno;have hln:=dH.n;have hmul:(len+n)*i.size=len*i.size+n*i.size:=AH _ _ _;have hoff:off+len*i.size<=blk.cells.length\/len*i.size=0:=(by omega);have hcos:Yj st.mem i.size (.sl b off len cap)=some (len,old):=(by simp [Yj,hm,hold,hno]);obtain ⟨_,hfo⟩:=Xt (P:=P) h hcos (.sl b off len cap l c hρ cJ hlc) holdl;obtain ⟨ovs,hovs,hof⟩:=hfo len (Ak _);rw [AV (by omega)] at hovs;have hovz:ovs.size=len*i.size:=by rw [<-hovs.1];exact holdl
             have hof1:(Builtin.firstCells i.size len (.slice (some ⟨l.blk,l.base+off,none⟩) len c)).run P w.drew=.ok ovs w.drew:=hof (w.drawn+1);have inplace: ∀v st',len+n<=c->floor<=b->off+(len+n)*i.size<=blk.cells.length->
               some (BA.sl b off (len+n) cap,st.withMem (Yi st.mem b (some ⟨blk.cells.take (off+len*i.size)++new++blk.cells.drop (off+(len+n)*i.size),blk.ty,none⟩)))=some (v,st')->(∀z,cap=.un z->z=i.size)->
               ∃ρ' u w',(Builtin.append_ (t::tu::tts).toArray type ((.slice (some ⟨l.blk,l.base+off,none⟩) len c)::ux::uxs).toArray).run P w=.ok u w'/\CK ρ floor st st' v w ρ' u w'/\(st'.env=st.env/\st'.ob=st.ob)/\NH ρ st.mem (.sl b off len cap::x::txs) w w':=by
              intro v st' cH hfl cL he hzc;simp only [Ab,Aa] at he;obtain ⟨rfl,rfl⟩:=he;obtain ⟨cur,el,hw,hcsz,cB⟩:=h.write hρ hm (off:=off+len*i.size) (cs:=new) (vs:=vs.toList) hno (by grind) (by omega) (fun j h1 h2=>by simpa using hvs.2 j h1 (by grind));have hst:=run_storeCells_at P l.blk (l.base+off+len*i.size) el vs.toList 0 cur w hw (by grind) cR;rw [A1] at hst;have cE:=hF.hin (type:=type) (ts:=tts) (base:=some ⟨l.blk,l.base+off,none⟩) (len:=len) (c:=c) (xs:=uxs) hrn cH (w':=w.setRow l.blk (cur.toList.take (l.base+off+len*i.size)++vs.toList++cur.toList.drop (l.base+off+len*i.size+vs.toList.length)).toArray)
               (fun a e=>by cases e;rw [Yf];exact hst) (fun e=>by cases e)
              refine ⟨ρ,_,_,cE,⟨.sl _ _ _ _ l c hρ cJ (by omega),?_,Ev.ofWrite h hρ hfl _ _⟩,⟨rfl,rfl⟩,(fun b' off' len' z b2 o2 n2 c2 r blk' l' e hn hm' hend hl'=> ?keep),fun _ e=>by cases e⟩
              case keep=>exfalso;cases e;obtain rfl:=hzc _ rfl;rw [hm] at hm';obtain rfl:=Ac hm';obtain rfl:=TO hcs;have:1*i.size<=n*i.size:=Av _ hn;omega
              have e1:off+len*i.size+new.length=off+(len+n)*i.size:=(by omega);rw [e1] at cB
              simpa only [St.withMem,AF] using cB
             have anew: ∀v st' (st1:St),c<len+n->BF ρ st1.mem st1.next w->Ev ρ ρ floor st.mem st.next st1.mem st1.next w w->st1.env=st.env->st1.ob=st.ob->
               some (BA.sl st1.next 0 (len+n) (.un i.size),BY st1 (old++new) e)=some (v,st')->
               ∃ρ' u w',(Builtin.append_ (t::tu::tts).toArray type ((.slice (some ⟨l.blk,l.base+off,none⟩) len c)::ux::uxs).toArray).run P w=.ok u w'/\CK ρ floor st st' v w ρ' u w'/\(st'.env=st.env/\st'.ob=st.ob)/\NH ρ st.mem (.sl b off len cap::x::txs) w w':=by
              intro v st' st1 cH cZ hev1 cF hob he;simp only [Ab,Aa] at he;obtain ⟨rfl,rfl⟩:=he;obtain ⟨newCap,dV,rest,cU,cE⟩:=hF.hnew (type:=type) (ts:=tts) (base:=some ⟨l.blk,l.base+off,none⟩) (len:=len) (c:=c) (xs:=uxs) hof1 cH (by simpa [Kx] using hrm);have hov:=hovs.append hvs;have hsum:(ovs++vs).size +rest.size=newCap*i.size:=by rw [Array.size_append,hovz,hvsz,cU,hzs,<-AH,<-AH];grind
              have hp:=K2 cZ floor hov rest e e (.sl st1.next 0 (len+n) (.un i.size)) (.slice (some ⟨w.heap.size,0,none⟩) (len+n) newCap) (fun ρ' hρ'=>by
               refine .sl _ 0 _ _ _ _ hρ' ?_ dV
               grind [Us])
              refine ⟨_,_,_,cE,⟨hp.val,hp.rel,hev1.trans hp.ev⟩,⟨?_,?_⟩,(fun b' off' len' z b2 o2 n2 c2 r blk' l' e hn hm' hend hl'=> ?keep),fun _ e=>by cases e⟩
              case keep=>have hq:=h.blk b' l' blk' hl' hm';refine hq.world (BD.le_refl ρ) ?_;obtain ⟨_,g1⟩:=hq.some;rw [g1];exact QJ g1
              all_goals simp_all [BY]
             split at ha
             ·-- the capacity is known
              rename_i k;simp only [Us] at cJ;subst cJ;cases hk:Nat.ble (len+n) c with
              | true=>
               rw [hk,Ah] at ha;have hk:=Af hk;cases hf:(Nat.ble floor b&&Nat.ble (off+(len+n)*i.size) blk.cells.length) with
               | false=>grind
               | true=>rw [hf,Ah] at ha;simp_all
              | false=>
               rw [hk,Ai] at ha;have hk: ¬len+n<=c:=fun e=>by rw [AI e] at hk;cases hk
               exact anew _ _ st (by omega) h (Ev.refl _ _ _ _ _ h.dom) rfl rfl ha
             ·-- it is not
              rename_i zz;simp only [Us] at cJ;cases hf:(Nat.beq zz i.size&&Nat.ble floor b) with
              | false=>grind
              | true=>
               rw [hf,Ah] at ha;simp only [Ad] at hf;have hzz:=Ae hf.1;have hfl:=Af hf.2;subst hzz;cases hk:Nat.ble (off+(len+n)*i.size) blk.cells.length with
               | true=>
                rw [hk,Ah] at ha;have hk:=Af hk;have cH:len+n<=c:=by rw [hln] at cJ;have:(len+n)*i.size<=c*i.size:=(by omega);exact Nat.le_of_mul_le_mul_right this hsz
                grind
               | false=>
                rw [hk,Ai] at ha;cases hend:Nat.beq (off+len*i.size) blk.cells.length with
                | false=>grind
                | true=>
                 rw [hend,Ah] at ha;have hend:=Ae hend;by_cases cH:len+n<=c
                 ·-- there is Kx: behind what is told
                  simp only [Ab,Aa] at ha;obtain ⟨rfl,rfl⟩:=ha;have hcm:(len+n)*i.size<=c*i.size:=Av _ cH;obtain ⟨cur,el,hw,hcsz,cB⟩:=h.beyond hρ hm hno (off:=off) (new:=new) (vs:=vs.toList) e (by grind) (by omega) (by omega) (fun j h1 h2=>by simpa using hvs.2 j h1 (by grind)) (by simpa [tyOk,En,hu,hm] using hty);have hst:=run_storeCells_at P l.blk (l.base+off+len*i.size) el vs.toList 0 cur w hw (by grind) cR;rw [A1] at hst;have cE:=hF.hin (type:=type) (ts:=tts) (base:=some ⟨l.blk,l.base+off,none⟩) (len:=len) (c:=c) (xs:=uxs) hrn cH (w':=w.setRow l.blk (cur.toList.take (l.base+off+len*i.size)++vs.toList++cur.toList.drop (l.base+off+len*i.size+vs.toList.length)).toArray)
                   (fun a e=>by cases e;rw [Yf];exact hst) (fun e=>by cases e)
                  have hod:old=blk.cells.drop off:=by rw [hpold];exact AV (by simp;omega)
                  refine ⟨_,_,_,cE,⟨.sl _ 0 _ _ ⟨l.blk,l.base+off,blk.cells.length - off+new.length,l.tot - off⟩ c (by simp [Xr]) ?_ (by omega),?_,Ev.ofBeyond h hρ hfl ⟨l.blk,l.base+off,blk.cells.length - off+new.length,l.tot - off⟩ rfl _ _⟩,⟨rfl,rfl⟩,(fun b' off' len' z b2 o2 n2 c2 r blk' l' e hn hm' _ hl'=> ?keep),fun _ e=>by cases e⟩
                  case keep=>
                   cases e;rw [hm] at hm';obtain rfl:=Ac hm';rw [hρ] at hl';obtain rfl:=Ac hl';obtain ⟨q0,q1,q2,q3,cs0,el0,q4,q5,q6⟩:=dH;rw [hw] at q4;obtain ⟨rfl,rfl⟩:cur=cs0/\el=el0:=by
                    grind
                   obtain ⟨cs1,s1,s2,s3⟩:=Tl (vs:=vs.toList) hw (m:=l.base+off+len*i.size) (by grind);refine .plain ⟨by rw [s1];grind,q1,q2,q3,cs1,el,s1,by grind,fun k hk=> ?_⟩;obtain ⟨v,r1,r2⟩:=q6 k hk
                   grind
                  .simp only [Us];omega
                  .rw [hod];have e2:l.base+off+len*i.size=l.base+blk.cells.length:=(by omega);rw [e2]
                   simpa only [BY,St.withMem] using cB
                 .exact anew _ _ (st.withMem (Yi st.mem b none)) (by omega) (h.kill b) (Ev.ofKill h floor hρ) rfl rfl ha
          .cases ha
         .cases ha
        .cases ha
      .cases ha
     .cases ha
    .cases ha
 .cases ha
theorem Pn {get:Nat->List BA} {off len n sz N:Nat} {new:List BA} (hl: ∀i,i<N->(get i).length =sz) (hN:off+len=N) (hnew:new.length=n*sz):
  (∀i,i<len+n->(Zn get off len sz new i).length =sz)/\rows (len+n) (Zn get off len sz new)=((rows N get).drop (off*sz)).take (len*sz)++new:=by
 have h1: ∀i,i<len+n->(Zn get off len sz new i).length =sz:=fun i hi=>by
  unfold Zn;cases e:Nat.ble len i with
  | true=>
   have:=Af e;simp only [Ah,List.length_take,Bw,hnew];have:(i - len+1)*sz<=n*sz:=Av sz (by omega)
   grind
  | false=>
   have: ¬len<=i:=fun h=>by rw [AI h] at e;cases e
   grind
 refine ⟨h1,?_⟩;have cC:=Zh (len+n) h1;have hlenN:=Zh N hl;have hd:((rows N get).drop (off*sz)).length =len*sz:=by rw [Bw,hlenN,<-hN,AH];omega
 rw [AV (by omega)];apply List.ext_getElem?;intro i;by_cases hi:i<(len+n)*sz
 .have hsz:0<sz:=by
   grind
  have hj:i %sz<sz:=A2 _ hsz;have hq:i / sz<len+n:=AP (by grind);have e:i=i / sz*sz+i %sz:=by rw [Ba];exact (A4 i sz).symm
  generalize i / sz=q at*;generalize i %sz=j at*;subst e;rw [Xc (len+n) h1 q j hq hj];unfold Zn;cases e:Nat.ble len q with
  | true=>
   have hle:=Af e;have:len*sz<=q*sz:=Av sz hle;simp only [Ah];rw [List.getElem?_append_right (by omega),hd,List.getElem?_take,AB hj,List.getElem?_drop]
   congr 1
   rw [Nat.sub_mul];omega
  | false=>
   have hlt:q<len:=by
    rcases AS q len with h | h
    .exact h
    .rw [AI h] at e;cases e
   have:(q+1)*sz<=len*sz:=Av sz hlt;rw [AH,Bu] at this;simp only [Ai];rw [List.getElem?_append_left (by omega),List.getElem?_drop,<-Xc N hl (off+q) j (by omega) hj]
   grind
 grind
theorem Pm (n:Nat) (z:List BA):B5 n z=rows n fun _=>z:=by unfold B5 rows;rw [List.flatMap_def,List.map_const',List.length_range]
theorem Ev.remem {ρ':BD} {floor:Nat} {m m' m'':BH} {n n':Nat} {w w':World} (h:Ev ρ ρ' floor m n m' n' w w') (hm: ∀b,b<n-> ∀cs ty,Zs m b=some ⟨cs,ty,none⟩->Zs m'' b=Zs m' b):Ev ρ ρ' floor m n m'' n' w w':=
 ⟨h.ext,h.new,h.nxt,fun b hb e cs ty hc=>by rw [hm b hb cs ty hc];exact h.unborn b hb e cs ty hc,h.frame,h.fresh,h.size,h.os,h.tape,h.output,h.still⟩
theorem BF.remem {mem mem':BH} {next:Nat} {w:World} (h:BF ρ mem next w) (hm: ∀b,Zs mem' b=Zs mem b):BF ρ mem' next w:=
 ⟨h.dom,fun b b' l l' e e' he hs hs'=>h.inj b b' l l' e e' he (by grind) (by grind),fun b l ab e hc=>h.blk b l ab e (by grind),h.old,fun b l e hs=>h.sep b l e (by grind),h.real,fun b hb=>by rw [hm];exact h.bd b hb,h.ldom⟩
theorem Se {cx:BK} {st st':St} {w:World} (h:BF ρ st.mem st.next w) {t:TypeId} {x y v:BA} {ux uy:Value} (hb:Vw P cx st t x y=some (v,st')) (hob:st'.ob=true) (hx:Zb ρ x ux) (hy:Zb ρ y uy):
  ∃ρ' u w',(Instr.makeSlice t ux uy).run P w=.ok u w'/\CK ρ cx.floor st st' v w ρ' u w':=by
 unfold Vw at hb;split at hb
 .rename_i e kl l kc c hu;split at hb
  .rename_i i zero hi hz;cases cW:(Nat.beq zero.length i.size&&Nat.ble 1 i.size) with
   | false=>grind
   | true=>
    rw [cW,Ah] at hb;simp only [Ad] at cW;obtain ⟨k1,k2⟩:=cW;have hzl:=Ae k1;simp only [Ag,Aa] at hb;obtain ⟨st1,ho,rfl,rfl⟩:=hb;obtain ⟨o1,o2,o3,o4⟩:=I3 ho;obtain ⟨hc,_⟩:=o4 hob;have m2:st1.mem=Yi st.mem st.next (some ⟨rows c.toNat fun _=>zero,e,some ⟨i.size,c.toNat,.flat fun _=>zero⟩⟩):=o2
    have n2:st1.next=st.next+1:=o3
    have h0:Wa P st t (.int kl l) (.int kc c)=some (.sl st.next 0 l.toNat (.ex c.toNat),BY st (B5 c.toNat zero) e):=by simp_all [Wa]
    obtain ⟨ρ',uv,w',cE,hp,_,_⟩:=Uy h cx.floor h0 hx hy;refine ⟨ρ',uv,w',cE,?_,?_,?_⟩
    .have hv:=hp.val;cases hv with
     | sl _ _ _ _ l' c' hρ' dV dS=>
      have hbk:=hp.rel.blk st.next l' ⟨B5 c.toNat zero,e,none⟩ hρ' (Zd _ _ _)
      have hcn:c'=c.toNat:=dV;have q1:=hbk.n;have q2:=hbk.tot;simp only [Jf,hzl] at q1;have:=Zb.sla (ρ:=ρ') st.next i.size 0 l.toNat (.un i.size) l' c' hρ' (by grind [Us]) dS
      grind
    .have hr:BF ρ' (Yi st.mem st.next (some ⟨B5 c.toNat zero,e,none⟩)) (st.next+1) w':=hp.rel;rw [Pm] at hr;rw [m2,n2];obtain ⟨_,_,_,_,hzr,_⟩:=Xw (ρ:=ρ) hz;exact hr.setArr ⟨i.size,c.toNat,_⟩ (Qi (ρ:=ρ) (fun v hv=>.inl (Wx.mem hzr v (Po hv).choose_spec.2)) _ _) rfl (Af k2) fun _ _=>hzl
    .rw [m2,n2];refine hp.ev.remem fun b' hb' cs ty hcs=> ?_;show _=Zs (Yi st.mem st.next _) b'
     grind [Zx]
  .cases hb
 .cases hb
theorem PS {cx:BK} {st st':St} {w:World} (h:BF ρ st.mem st.next w) {ts:Array TypeId} {type:TypeId} {xs:List BA} {us:Array Value} {v:BA} (ha:Qz P cx st ts.toList xs=some (v,st')) (hob:st'.ob=true) (hx:Xo (Zb ρ) xs us.toList) (hty:tyOk P st.mem ts.toList xs=true):
  ∃ρ' u w',(Builtin.append_ ts type us).run P w=.ok u w'/\CK ρ cx.floor st st' v w ρ' u w'/\ ∀b sz off len z r blk l,xs=.sla b sz off len (.un z)::r->Zs st.mem b=some blk->ρ b=some l->Xu ρ w' blk l:=by
 obtain ⟨ul⟩:=us;simp only at hx;unfold Qz at ha;split at ha
 .rename_i t u tr b sz off len z x xr hts;split at ha
  .rename_i e ut hu hut;split at ha
   .cases ha
   .rename_i hni;split at ha
    .rename_i i hi;split at ha
     .rename_i n new zero blk hc hz hm;split at ha
      .rename_i A hA;cases cW:(Nat.beq zero.length i.size&&Nat.beq new.length (n*i.size)&&Nat.ble 1 i.size&&new.all B4&&Nat.beq sz i.size&&Nat.beq z sz&&Nat.ble cx.floor b&&Nat.ble 1 n) with
       | false=>grind
       | true=>
        rw [cW,Ah] at ha;have hchk0:=cW;simp only [Ad] at cW;obtain ⟨⟨⟨⟨⟨⟨⟨k1,k2⟩,k3⟩,k4⟩,k5⟩,k6⟩,k7⟩,k8⟩:=cW;obtain rfl:=Ae k5;obtain rfl:=Ae k6;have hnl:=Ae k2;have hsz1:=Af k3;have hfl:=Af k7;have hn1:=Af k8;simp only [Ag,Aa] at ha;obtain ⟨st1,ho,rfl,rfl⟩:=ha;obtain ⟨o1,o2,o3,o4⟩:=I3 ho;obtain ⟨hb,_⟩:=o4 hob;simp only [Ad,Au] at hb;obtain ⟨hAs,hfull,cH⟩:=hb;have hAs:=Ae hAs;have hbn:b<st.next:=by
         rcases AS b st.next with g | g
         .exact g
         .rw [h.bd b g] at hm;cases hm
        have m2:st1.mem=Yi (Yi st.mem b none) st.next (some ⟨rows (len+n) (Zn A.get off len i.size new),e,some ⟨i.size,len+n,Zn A.get off len i.size new⟩⟩):=o2
        have n2:st1.next=st.next+1:=o3
        cases hx with
        | cons ha0 hr=>
         cases ha0 with
         | sla _ _ _ _ _ l c hρ cJ cC=>
          have hb0:=(h.blk b l blk hρ hm).rows hA;have hno:=hb0.noObj;obtain ⟨dF,dT,cN⟩:=hb0.arr A hA;rw [hAs] at cN;obtain ⟨q1,q2⟩:=Pn (new:=new) cN hfull hnl;have hlenr:=Zh A.n cN;have hmul:off*i.size+len*i.size=A.n*i.size:=(by grind);have hcut:cut blk.cells (off*i.size) (len*i.size)=some ((blk.cells.drop (off*i.size)).take (len*i.size)):=by
           unfold cut;simp only;rw [show Nat.beq ((blk.cells.drop (off*i.size)).take (len*i.size)).length (len*i.size)=true from by
            rw [Nat.beq_eq];simp [dF,hlenr];omega]
           rfl
          have hroom':Nat.ble ((len+n+1)*(i.bytes+1)) Kx=true:=AI cH;have hnot:Nat.ble (off*i.size+(len+n)*i.size) blk.cells.length=false:=by
           have:1*i.size<=n*i.size:=Av _ hn1;cases g:Nat.ble (off*i.size+(len+n)*i.size) blk.cells.length with
           | false=>rfl
           | true=>
            have:=Af g
            grind
          have hat:Nat.beq (off*i.size+len*i.size) blk.cells.length=true:=(by simp_all);have h0:Ui P cx.floor st ts.toList (.sl b (off*i.size) len (.un i.size)::x::xr)=some (.sl st.next 0 (len+n) (.un i.size),BY (st.withMem (Yi st.mem b none)) (((blk.cells.drop (off*i.size)).take (len*i.size))++new) e):=by
           rw [hts];unfold Ui;simp only [hu,hut,hi,hz]
           grind [We]
          obtain ⟨ρ',uv,w',cE,hp,_,hkeep⟩:=Uk (type:=type) h cx.floor h0 (us:=⟨_⟩) (.cons (.sl _ _ _ _ l c hρ cJ cC) hr) (by rw [hts] at hty ⊢;simpa [tyOk,En,hu,hm] using hty);refine ⟨ρ',uv,w',cE,⟨?_,?_,?_⟩,fun b' sz' off' len' z' r' blk' l' e hm' hl'=> ?_⟩
          rotate_left 3
          .injection e with e1 _;injection e1 with f1 _ _ _ _;subst f1;rw [hm] at hm';obtain rfl:=Ac hm';have hxs: ∃b2 o2 c2,x=.sl b2 o2 n c2:=by
            unfold Yj at hc;split at hc
            .grind
            .split at hc
             .obtain ⟨_,hc⟩:=Fk hc;simp_all
             .cases hc
            .cases hc
           obtain ⟨b2,o2,c2,rfl⟩:=hxs;exact hkeep.1 _ _ _ _ _ _ _ _ _ _ _ rfl hn1 hm (by grind) hl'
          .have hv:=hp.val;cases hv with
           | sl _ _ _ _ l' c' hρ' dV dS=>
            have:=Zb.sla (ρ:=ρ') st.next i.size 0 (len+n) (.un i.size) l' c' hρ' (by grind) dS
            grind
          .have hr:=hp.rel;rw [m2,n2];have hr:BF ρ' (Yi (Yi st.mem b none) st.next (some ⟨((blk.cells.drop (off*i.size)).take (len*i.size))++new,e,none⟩)) (st.next+1) w':=hr;have dW:=Qi (ρ:=ρ) (cs:=((blk.cells.drop (off*i.size)).take (len*i.size))++new) (fun v hv=>(List.mem_append.1 hv).elim (fun k=>.inl (hb0.mem v (List.mem_of_mem_drop (List.mem_of_mem_take k)))) (fun k=>.inr (Az.1 k4 v k))) e none;rw [dF,<-q2] at hr dW;exact hr.setArr ⟨i.size,len+n,_⟩ dW rfl hsz1 q1
          .rw [m2,n2];refine hp.ev.remem fun b' hb' cs ty hcs=> ?_;have hne:b'≠b:=fun e=>by grind
           show _=Zs (Yi (Yi st.mem b none) st.next _) b';rw [Zx _ _ (by omega),Zx _ _ hne,Zx _ _ (by omega),Zx _ _ hne]
         | slan=>
          have hq:=Pn (get:=fun _=>List.replicate i.size BA.undef) (off:=0) (len:=0) (N:=0) (new:=new) (fun i hi=>absurd hi (AC _)) rfl hnl;have hfe:Zn (fun _=>List.replicate i.size BA.undef) 0 0 i.size new=Zn A.get off 0 i.size new:=rfl;rw [hfe] at hq;obtain ⟨q1,q2⟩:=hq;have hn0:Nat.beq n 0=false:=by cases n with | zero=>omega | succ n=>rfl
          have hroom':Nat.ble ((n+1)*(i.bytes+1)) Kx=true:=AI (by grind);have h0:Ui P cx.floor st ts.toList (.nils ::x::xr)=some (.sl st.next 0 n (.un i.size),BY st new e):=by
           rw [hts];unfold Ui
           grind [We]
          obtain ⟨ρ',uv,w',cE,hp,_,hkeep⟩:=Uk (type:=type) h cx.floor h0 (us:=⟨_⟩) (.cons .nils hr) (by rw [hts];simp [tyOk,hu]);refine ⟨ρ',uv,w',cE,⟨?_,?_,?_⟩,fun b' sz' off' len' z' r' blk' l' e hm' hl'=> ?_⟩
          rotate_left 3
          .have hq:=h.blk b' l' blk' hl' hm';refine hq.world (BD.le_refl ρ) ?_;obtain ⟨_,g1⟩:=hq.some;rw [g1];exact hkeep.2 _ rfl _ _ g1
          .have hv:=hp.val;rw [Aj];cases hv with
           | sl _ _ _ _ l' c' hρ' dV dS=>
            have:=Zb.sla (ρ:=ρ') st.next i.size 0 n (.un i.size) l' c' hρ' (by grind) dS
            grind
          .have hr:BF ρ' (Yi st.mem st.next (some ⟨new,e,none⟩)) (st.next+1) w':=hp.rel;have hr:=hr.kill b;have hr:BF ρ' (Yi (Yi st.mem b none) st.next (some ⟨new,e,none⟩)) (st.next+1) w':=hr.remem fun b'=>by
            simp only [Xi];by_cases e1:b'=st.next
            .rw [AB e1,At (by omega),AB e1]
            simp_all
           rw [show new=rows (0+n) (Zn A.get off 0 i.size new) by rw [q2];simp] at hr;rw [m2,n2];have dW:=U7 k4 e none;rw [show new=rows (0+n) (Zn A.get off 0 i.size new) by rw [q2];simp] at dW;have:=hr.setArr ⟨i.size,0+n,Zn A.get off 0 i.size new⟩ dW rfl hsz1 q1;exact this
          .rw [m2,n2];refine hp.ev.remem fun b' hb' cs ty hcs=> ?_;have hne:b'≠b:=fun e=>by grind
           show _=Zs (Yi st.mem st.next _) b';rw [Zx _ _ (by omega),Zx _ _ hne,Zx _ _ (by omega)]
      .cases ha
     .cases ha
    .cases ha
  .cases ha
 .cases ha
theorem BF.ghost {mem:BH} {next:Nat} {w:World} (h:BF ρ mem next w) (o:Option BE):BF ρ (Yi mem next o) (next+1) w:=by
 have ne: ∀c l,ρ c=some l->c≠next:=fun c l e=>AU (h.dom c l e)
 refine ⟨fun c l e=>AW (h.dom c l e),fun c c' m m' e e' he hs hs'=> ?_,fun c m ac e hc=> ?_,h.old,fun c m e hs=> ?_,h.real,fun c hc=> ?_,⟨fun j l e=>AW (h.ldom.1 j l e),h.ldom.2⟩⟩
 .rw [Zx _ _ (ne _ _ e)] at hs;rw [Zx _ _ (ne _ _ e')] at hs';exact h.inj c c' m m' e e' he hs hs'
 .rw [Zx _ _ (ne _ _ e)] at hc;exact h.blk c m ac e hc
 .rw [Zx _ _ (ne _ _ e)] at hs;exact h.sep c m e hs
 .rw [Zx _ _ (by omega)];exact h.bd c (by omega)
theorem Ev.ghost {mem:BH} {next:Nat} {w:World} (h:BF ρ mem next w) (floor:Nat) (o:Option BE):Ev ρ ρ floor mem next (Yi mem next o) (next+1) w w where
 ext:=BD.le_refl _
 new _ _:=rfl
 nxt:=Bt _
 unborn k hk _ cs ty hm:=by grind [Zx]
 frame _ _ hk _:=hk
 fresh k m hk e:=by have:=h.dom k m e;omega
 size:=Ak _
 os:=rfl
 tape:=rfl
 output:=rfl
 still _ _:=rfl
theorem V9 {mem:BH} {next:Nat} {w:World} (h:BF ρ mem next w) {n sz:Nat} {g:Nat->List BA} {ux:Value} (hx:Zb ρ (.dat n g) ux) (hg: ∀i,i<n->(g i).length =sz) (hsz:1<=sz):
  (∀w,(Builtin.lenOf ux).run P w=.ok n w)/\ ∃vs:Array Value,Wx ρ (rows n g) vs/\ ∀d,(Builtin.firstCells sz n ux).run P {w with drawn:=d}=.ok vs {w with drawn:=d}:=by
 cases hx with
 | datn=>exact ⟨fun w=>by simp [Builtin.lenOf], #[],⟨by simp [rows],fun i h1 h2=>by grind⟩,fun d=>by simp [Builtin.firstCells]⟩
 | datz=>exact ⟨fun w=>by simp [Builtin.lenOf], #[],⟨by simp [rows],fun i h1 h2=>by grind⟩,fun d=>by simp [Builtin.firstCells,loadCells,loadCellsFrom]⟩
 | dat _ _ blk base sz' cap val cJ eB hv hh=>
  refine ⟨fun w=>by simp [Builtin.lenOf],?_⟩;have hl:=Zh n hg;have hdiv: ∀k,k<n*sz->k / sz<n/\k %sz<sz/\k / sz*sz+k %sz=k:=fun k hk=>
   ⟨AP (by grind),A2 _ hsz,by rw [Ba];exact A4 k sz⟩
  have dD: ∀(d k:Nat),k<n*sz->({w with drawn:=d}:World).cell? ((⟨blk,base,none⟩:Addr).add k)=some (val (k / sz) (k %sz)):=by
   intro d k hk;obtain ⟨hq,hj,e4⟩:=hdiv k hk;have hs:sz'=sz:=by grind
   obtain ⟨cs,el,fz,e1,e2⟩:=hh (k / sz) (k %sz) hq (by omega);have e3:=h.old _ _ e1
   grind [Yf,World.cell?]
  refine ⟨_,⟨?_,?_⟩,fun d=>by simp only [Builtin.firstCells];exact run_loadCells _ _ _ (fun k=>val (k / sz) (k %sz)) (dD d)⟩
  .simp [hl]
  .intro k h1 h2;obtain ⟨hq,hj,e4⟩:=hdiv k (by grind);have hj':k %sz<(g (k / sz)).length :=by grind
   have hr:=Xc n hg (k / sz) (k %sz) hq hj;rw [e4,Ao h1,Ao hj'] at hr;rw [Ac hr]
   simpa using (hv (k / sz) (k %sz) hq hj').mono (IS ρ)
theorem I5 {g:Nat->List BA} {p:BA->Bool} (n:Nat) (h: ∀i,i<n->(g i).all p=true):(rows n g).all p=true:=by
 grind [rows]
theorem Qc {get:Nat->List BA} {sz N off len:Nat} (hl: ∀i,i<N->(get i).length =sz) (h:off+len<=N):rows len (fun k=>get (off+k))=((rows N get).drop (off*sz)).take (len*sz):=by
 have h1: ∀k,k<len->(get (off+k)).length =sz:=fun k hk=>hl _ (by omega);have hL:=Zh len h1;have hN:=Zh N hl;have hm:(off+len)*sz<=N*sz:=Av _ h;rw [AH] at hm;apply List.ext_getElem?;intro i;by_cases hi:i<len*sz
 .have hsz:0<sz:=by
   grind
  have hj:i %sz<sz:=A2 _ hsz;have hq:i / sz<len:=AP (by grind);have e:i / sz*sz+i %sz=i:=by rw [Ba];exact A4 i sz
  have a1:=Xc len h1 (i / sz) (i %sz) hq hj;have a2:=Xc N hl (off+i / sz) (i %sz) (by omega) hj
  grind
 grind
theorem Tp (s:List UInt8):rows s.length (LA s)=s.map fun b=>BA.int .u8 b.toNat:=by
 unfold rows LA;rw [<-List.map_eq_flatMap];refine Bl (by simp) fun i h1 h2=> ?_;have hi:i<s.length:=by simpa using h2
 simp only [List.getElem_map,List.getElem_range];unfold JU;rw [Bh,Ao hi];rfl
theorem U2 {mem:BH} {next:Nat} {w:World} (h:BF ρ mem next w) {t u e:TypeId} {ut:TypeDesc} {i:TypeInfo} {z:Value} {zero:List BA} {x:BA} {ux:Value} {n:Nat} {g:Nat->List BA} {o:Bool} (hu:P.underlying t=some (.slice e)) (hut:P.underlying u=some ut) (hi:P.info? e=some i) (hz:i.zero=some z)
  (hzr:Wx ρ zero z.cells) (hzl:zero.length=i.size) (hzs:zero.all B4=true) (hsz:1<=i.size) (hc:LH mem i.size zero ut x=some (n,g,o)) (ho:o=true) (hx:Zb ρ x ux):
  (∀k,k<n->(g k).length =i.size)/\ ∃vs,L3 P ρ t u e i z ux n (rows n g) vs w/\ ∀v∈vs.toList,v.oneCell'=true:=by
 subst ho;unfold LH at hc;split at hc
 .rename_i k m;split at hc
  .rename_i kt;simp only [Ab,Aa] at hc;obtain ⟨rfl,rfl,h0⟩:=hc;have hcs:We mem i.size zero (.int kt) (.int k m)=some (m.toNat,B5 m.toNat zero):=by
    grind [We]
   obtain ⟨vs,hF⟩:=Wt (P:=P) (u:=u) (t:=t) h hu hut hi hz hzr hzl hcs hx (by rw [Jf,hzl]);rw [Pm] at hF;exact ⟨fun _ _=>hzl,vs,hF,Zb.cells_oneCell hF.rel (I5 _ fun _ _=>hzs)⟩
  .cases hc
 .rename_i nn gg;split at hc
  .cases hc
  .rename_i hni;simp only [Ab,Aa] at hc;obtain ⟨rfl,rfl,h0⟩:=hc;have hp:=Ht h0;obtain ⟨cC,vs,hvs,hfc⟩:=V9 (P:=P) h hx (fun i hi=>(hp i hi).1) hsz;have dU:(Builtin.firstCells i.size nn ux).run P w=.ok vs w:=hfc w.drawn;have hfc1:(Builtin.firstCells i.size nn ux).run P w.drew=.ok vs w.drew:=hfc (w.drawn+1);exact ⟨fun i hi=>(hp i hi).1,vs,⟨hvs,fun _ cH _ hst hno=>Kp hu hut (fun k e=>hni k e) hi (cC w) dU cH hst hno,fun hold cH cY=>Jg hu hut (fun k e=>hni k e) hi hz (cC w) hfc1 hold cH cY⟩,
    Zb.cells_oneCell hvs (I5 _ fun i hi=>(hp i hi).2)⟩
 .split at hc
  .cases hc
  .rename_i hni;simp only [Ab,Aa] at hc;obtain ⟨rfl,rfl,_⟩:=hc;have hcs:We mem i.size zero ut .nils =some (0,[]):=by
    unfold We;split
    .grind
    .rfl
   obtain ⟨vs,hF⟩:=Wt (P:=P) (u:=u) (t:=t) h hu hut hi hz hzr hzl hcs hx (by simp);exact ⟨fun k hk=>absurd hk (AC _),vs,hF,Zb.cells_oneCell hF.rel rfl⟩
 .rename_i b zz off len0 cap;split at hc
  .cases hc
  .rename_i hni;split at hc
   .rename_i cells ty A hm;simp only [Ab,Aa,Ad,Au] at hc;obtain ⟨rfl,rfl,h1,h2,cL,h4⟩:=hc;have hp:=Ht h4;have h1:=Ae h1;have h2:=Ae h2;subst h1;have nc: ∀v,We mem i.size zero ut v=Yj mem i.size v:=fun v=>by
     grind [We]
    cases hx with
    | sla _ _ _ _ _ l c hρ cJ hlc=>
     obtain ⟨dF,dT,cN⟩:=(h.blk b l _ hρ hm).arr A rfl;rw [h2] at cN;simp only at dF;have hrp:=Qc cN cL;have hlr:=Zh A.n cN;have hm2:(off+len0)*i.size<=A.n*i.size:=Av _ cL;rw [AH] at hm2;have cC:((cells.drop (off*i.size)).take (len0*i.size)).length =len0*i.size:=by
      grind
     have hcut:cut cells (off*i.size) (len0*i.size)=some ((cells.drop (off*i.size)).take (len0*i.size)):=by simp_all [cut]
     have hcs:We mem i.size zero ut (.sl b (off*i.size) len0 (.ex c))=some (len0,(cells.drop (off*i.size)).take (len0*i.size)):=by have hno:(⟨cells,ty,some A⟩:BE).isObj =false:=((h.blk b l _ hρ hm).rows rfl).noObj;rw [nc];simp [Yj,hm,hcut,hno]
     obtain ⟨vs,hF⟩:=Wt (P:=P) (u:=u) (t:=t) h hu hut hi hz hzr hzl hcs (.sl b (off*i.size) len0 (.ex c) l c hρ rfl hlc) cC;rw [dF,<-hrp] at hF;exact ⟨fun k hk=>(hp k hk).1,vs,hF,Zb.cells_oneCell hF.rel (I5 _ fun k hk=>(hp k hk).2)⟩
    | slan=>
     have hcs:We mem i.size zero ut .nils =some (0,[]):=by rw [nc];rfl
     obtain ⟨vs,hF⟩:=Wt (P:=P) (u:=u) (t:=t) h hu hut hi hz hzr hzl hcs .nils (by simp);exact ⟨fun k hk=>absurd hk (AC _),vs,hF,Zb.cells_oneCell hF.rel rfl⟩
   .cases hc
 .rename_i s;split at hc
  .obtain ⟨hs1,hc⟩:=Vr hc;have hs1:=Ae hs1;simp only [Ab,Aa] at hc;obtain ⟨rfl,rfl,_⟩:=hc;cases hx;have hvs:Wx ρ (rows s.length (LA s)) (s.map fun b=>Value.int .u8 b.toNat).toArray :=by rw [Tp];refine ⟨by simp,fun j h1 h2=> ?_⟩;simp only [List.getElem_map,List.getElem_toArray];exact .int _ _
   have hl: ∀w,(Builtin.lenOf (.string ⟨s.toArray⟩)).run P w=.ok s.length w:=fun w=>by simp [Builtin.lenOf,<-ByteArray.size_data]
   have hfc: ∀w,(Builtin.firstCells i.size s.length (.string ⟨s.toArray⟩)).run P w=.ok (s.map fun b=>Value.int .u8 b.toNat).toArray w:=fun w=>by simp [Builtin.firstCells,ByteArray.data_extract]
   exact ⟨fun k hk=>hs1.symm,_,⟨hvs,fun _ cH _ hst hno=>Kp hu hut (fun k e=>by cases e) hi (hl w) (hfc w) cH hst hno,fun hold cH cY=>Jg hu hut (fun k e=>by cases e) hi hz (hl w) (hfc _) hold cH cY⟩,
    Zb.cells_oneCell hvs (I5 _ fun i hi=>rfl)⟩
  .cases hc
 .cases hc
def NG (P:Program) (ρ:BD) (floor:Nat) (mem mem':BH) (next:Nat) (sz:Nat) (e:TypeId) (N:Nat) (G:Nat->List BA) (w:World) (r:World->Result Value):Prop:=
 ∃ρ' u w',r w=.ok u w'/\Zb ρ' (.sla next sz 0 N (.un sz)) u/\BF ρ' (Yi mem' next (some ⟨rows N G,e,some ⟨sz,N,G⟩⟩)) (next+1) w'/\Ev ρ ρ' floor mem next (Yi mem' next (some ⟨rows N G,e,some ⟨sz,N,G⟩⟩)) (next+1) w w'
theorem Oy {mem:BH} {next:Nat} {w:World} (h:BF ρ mem next w) (floor:Nat) {t u e:TypeId} {type:TypeId} {ts:List TypeId} {xs:List Value} {i:TypeInfo} {z ux:Value} {n:Nat} {new:List BA} {vs:Array Value} (hF:L3 P ρ t u e i z ux n new vs w)
  (cR: ∀v∈vs.toList,v.oneCell'=true) (hnl:new.length=n*i.size) (hzs:z.cells.size=i.size) (hsz:1<=i.size) {len c off b:Nat} {l:BS} {blk:BE} (hrm:(len+n+1)*(i.bytes+1)<=Kx)
  (hρ:ρ b=some l) (hm:Zs mem b=some blk) (hno:blk.isObj=false) (hfl:floor<=b) (hoff:off+len*i.size<=blk.cells.length) (hlc:len<=c) (cJ:(l.n<=off+c*i.size/\off+c*i.size<=l.tot)\/c<=len)
  {G:Nat->List BA} (hG:rows (len+n) G=(blk.cells.drop off).take (len*i.size)++new) (hGl: ∀k,k<len+n->(G k).length =i.size) (htyb:blk.ty=e):
  NG P ρ floor mem (Yi mem b none) next i.size e (len+n) G w fun w=>(Builtin.append_ (t::u::ts).toArray type ((.slice (some ⟨l.blk,l.base+off,none⟩) len c)::ux::xs).toArray).run P w:=by
 have hvs:=hF.rel;have hvsz:vs.size=n*i.size:=by rw [<-hvs.1];exact hnl
 have hbk:=(h.blk b l blk hρ hm).at hno;have hln:=hbk.n;have htot:=hbk.tot;have hmul:(len+n)*i.size=len*i.size+n*i.size:=AH _ _ _;have hcut:cut blk.cells off (len*i.size)=some ((blk.cells.drop off).take (len*i.size)):=by unfold cut;simp only;rw [show Nat.beq ((blk.cells.drop off).take (len*i.size)).length (len*i.size)=true from by rw [Nat.beq_eq];simp;omega];rfl
 have hcos:Yj mem i.size (.sl b off len (.ex c))=some (len,(blk.cells.drop off).take (len*i.size)):=by simp [Yj,hm,hcut,hno]
 have holdl:((blk.cells.drop off).take (len*i.size)).length =len*i.size:=by simp;omega
 obtain ⟨_,hfo⟩:=Xt (P:=P) h hcos (.sl b off len (.ex c) l c hρ rfl hlc) holdl;obtain ⟨ovs,hovs,hof⟩:=hfo len (Ak _);rw [AV (by omega)] at hovs;have hovz:ovs.size=len*i.size:=by rw [<-hovs.1];exact holdl
 have hof1:(Builtin.firstCells i.size len (.slice (some ⟨l.blk,l.base+off,none⟩) len c)).run P w.drew=.ok ovs w.drew:=hof (w.drawn+1);have hrn:n=0\/(n+1)*(i.bytes+1)<=1099511627776:=.inr (AE (Av _ (by omega)) hrm);have dW:(⟨rows (len+n) G,e,none⟩:BE).isObj =false:=by rw [hG];exact Qi (fun v hv=>.inl (Wx.mem (hovs.append hvs) v hv)) _ _
 by_cases cH:len+n<=c
 ·-- there is Kx
  have hcm:(len+n)*i.size<=c*i.size:=Av _ cH;obtain ⟨T,t1,t2,t3⟩: ∃T,off+len*i.size - off+new.length<=T/\off+T<=l.tot/\c*i.size<=T:=by
   rcases cJ with ⟨c1,c2⟩ | c1
   .exact ⟨l.tot - off,by omega,by omega,by omega⟩
   .have:n=0:=(by omega);subst this;have:c=len:=(by omega);subst this;exact ⟨c*i.size,by omega,by omega,by omega⟩
  obtain ⟨cur,el,hw,hcsz,cB⟩:=h.beyond2 hρ hm hno (off:=off) (m:=off+len*i.size) (T:=T) (new:=new) (vs:=vs.toList) e (by grind) (by omega) hoff t1 t2 (fun j h1 h2=>by simpa using hvs.2 j h1 (by grind)) htyb;have hst:=run_storeCells_at P l.blk (l.base+off+len*i.size) el vs.toList 0 cur w hw (by grind) cR;rw [A1] at hst;have cE:=hF.hin (type:=type) (ts:=ts) (base:=some ⟨l.blk,l.base+off,none⟩) (len:=len) (c:=c) (xs:=xs) hrn cH (w':=w.setRow l.blk (cur.toList.take (l.base+off+len*i.size)++vs.toList++cur.toList.drop (l.base+off+len*i.size+vs.toList.length)).toArray)
   (fun a e=>by cases e;rw [Yf];exact hst) (fun e=>by cases e)
  have hdt:(blk.cells.take (off+len*i.size)).drop off=(blk.cells.drop off).take (len*i.size):=by
   grind
  rw [hdt,<-hG,<-AF] at cB;refine ⟨_,_,_,cE,?_,cB.setArr ⟨i.size,len+n,G⟩ dW rfl hsz hGl,?_⟩
  .have:=Zb.sla (ρ:=Xr ρ next ⟨l.blk,l.base+off,off+len*i.size - off+new.length,T⟩) next i.size 0 (len+n) (.un i.size) ⟨l.blk,l.base+off,off+len*i.size - off+new.length,T⟩ c (by simp [Xr])
    (by grind [Us]) (by omega)
   grind
  grind [Ev.ofBeyond]
 ·-- a new row
  let st:St:=⟨.leaf,mem,next,[],true⟩
  have cZ:BF ρ (st.withMem (Yi mem b none)).mem (st.withMem (Yi mem b none)).next w:=h.kill b
  obtain ⟨newCap,dV,rest,cU,cE⟩:=hF.hnew (type:=type) (ts:=ts) (base:=some ⟨l.blk,l.base+off,none⟩) (len:=len) (c:=c) (xs:=xs) hof1 (by omega) (by simpa [Kx] using hrm);have hov:=hovs.append hvs;have hsum:(ovs++vs).size +rest.size=newCap*i.size:=by rw [Array.size_append,hovz,hvsz,cU,hzs,<-AH,<-AH];grind
  have hp:=K2 cZ floor hov rest e e (.sla next i.size 0 (len+n) (.un i.size)) (.slice (some ⟨w.heap.size,0,none⟩) (len+n) newCap) (fun ρ' hρ'=>by
   have:=Zb.sla (ρ:=ρ') next i.size 0 (len+n) (.un i.size) _ newCap hρ' (by
    grind [Us]) dV
   grind)
  rw [<-hG] at hp;refine ⟨Xr ρ next ⟨w.heap.size,0,(rows (len+n) G).length,(ovs++vs).size +rest.size⟩,_,_,cE,hp.val,?_,?_⟩
  .exact BF.setArr hp.rel ⟨i.size,len+n,G⟩ dW rfl hsz hGl
  .refine ((Ev.ofKill h floor hρ).trans hp.ev).remem fun b' hb' cs ty hcs=> ?_;have hne: ¬b'=next:=AU hb'
   show Zs (Yi (Yi mem b none) next _) b'=Zs (Yi (Yi mem b none) next _) b';simp only [Xi,At hne]
theorem QB {mem:BH} {next:Nat} {w:World} (h:BF ρ mem next w) (floor:Nat) {t u e:TypeId} {type:TypeId} {ts:List TypeId} {xs:List Value} {i:TypeInfo} {z ux:Value} {n:Nat} {new:List BA} {vs:Array Value} (hF:L3 P ρ t u e i z ux n new vs w)
  (hnl:new.length=n*i.size) (hzs:z.cells.size=i.size) (hsz:1<=i.size) (hrm:(0+n+1)*(i.bytes+1)<=Kx) {G:Nat->List BA} (hG:rows (0+n) G=new) (hGl: ∀k,k<0+n->(G k).length =i.size):
  NG P ρ floor mem mem next i.size e (0+n) G w fun w=>(Builtin.append_ (t::u::ts).toArray type ((.slice none 0 0)::ux::xs).toArray).run P w:=by
 have hvs:=hF.rel;have hvsz:vs.size=n*i.size:=by rw [<-hvs.1];exact hnl
 rcases Nat.eq_zero_or_pos n with hn0 | hnpos
 .subst hn0;have cE:=hF.hin (type:=type) (ts:=ts) (base:=none) (len:=0) (c:=0) (xs:=xs) (.inl rfl) (Ak _) (w':=w) (fun a e=>by cases e) (fun _=>rfl);exact ⟨ρ,_,w,cE,.slan _ _ _ _,h.ghost _,Ev.ghost h floor _⟩
 .obtain ⟨newCap,cJ,rest,cU,cE⟩:=hF.hnew (type:=type) (ts:=ts) (base:=none) (len:=0) (c:=0) (xs:=xs) (old:= #[]) (by simp [Builtin.firstCells]) (by omega) (by simpa [Kx] using hrm);have e0:(#[]:Array Value)++vs=vs:=by simp
  rw [e0] at cE;have hsum:vs.size+rest.size=newCap*i.size:=by rw [hvsz,cU,hzs,<-AH];grind
  let st:St:=⟨.leaf,mem,next,[],true⟩
  have cZ:BF ρ st.mem st.next w:=h
  have hp:=K2 cZ floor hvs rest e e (.sla next i.size 0 (0+n) (.un i.size)) (.slice (some ⟨w.heap.size,0,none⟩) (0+n) newCap) (fun ρ' hρ'=>by
   have:=Zb.sla (ρ:=ρ') next i.size 0 (0+n) (.un i.size) _ newCap hρ' (by
    grind [Us]) cJ
   grind)
  rw [<-hG] at hp;refine ⟨Xr ρ next ⟨w.heap.size,0,(rows (0+n) G).length,vs.size+rest.size⟩,_,_,cE,hp.val,BF.setArr hp.rel ⟨i.size,0+n,G⟩ (by rw [hG];exact Qi (fun v hv=>.inl (Wx.mem hvs v hv)) _ _) rfl hsz hGl,?_⟩
  .refine hp.ev.remem fun b' hb' cs ty hcs=> ?_;have hne: ¬b'=next:=AU hb'
   show Zs (Yi mem next _) b'=Zs (Yi mem next _) b';simp only [Xi,At hne]
theorem Vq {α β:Type} {f g:α->List β}: ∀{l:List α},(∀a,a∈l->f a=g a)->l.flatMap f=l.flatMap g
 | [],_=>rfl
 | a::l,h=>by rw [List.flatMap_cons,List.flatMap_cons,h a (by simp),Vq fun b hb=>h b (by simp [hb])]
theorem KE {get g:Nat->List BA} {len n sz:Nat} (hl: ∀i,i<len->(get i).length =sz) (hg: ∀i,i<n->(g i).length =sz):
  (∀i,i<len+n->(Vd get len g i).length =sz)/\rows (len+n) (Vd get len g)=rows len get++rows n g:=by
 have h1: ∀i,i<len+n->(Vd get len g i).length =sz:=fun i hi=>by
  unfold Vd;cases e:Nat.ble len i with
  | true=>
   have:=Af e
   grind
  | false=>
   have: ¬len<=i:=fun h=>by rw [AI h] at e;cases e
   grind
 refine ⟨h1,?_⟩;unfold rows;rw [List.range_add,List.flatMap_append]
 congr 1
 .refine Vq fun i hi=> ?_;have:=AM.1 hi;unfold Vd;rw [show Nat.ble len i=false from AT.2 fun e=>by have:=Af e;omega];rfl
 .rw [List.flatMap_map];refine Vq fun i hi=> ?_;unfold Vd;rw [show Nat.ble len (len+i)=true from AI (Nat.le_add_right _ _),Ah,Nat.add_sub_cancel_left]
theorem Tc {sz:Nat}: ∀(n:Nat) (l:List BA),l.length=n*sz->rows n (fun k=>(l.drop (k*sz)).take sz)=l/\ ∀k,k<n->((l.drop (k*sz)).take sz).length =sz:=by
 intro n l hl;have h1: ∀k,k<n->((l.drop (k*sz)).take sz).length =sz:=fun k hk=>by
  have:(k+1)*sz<=n*sz:=Av _ hk
  grind
 refine ⟨?_,h1⟩;have cC:=Zh n h1;apply List.ext_getElem?;intro i;by_cases hi:i<n*sz
 .have hsz:0<sz:=by
   grind
  have hj:i %sz<sz:=A2 _ hsz;have hq:i / sz<n:=AP (by grind);have e:i / sz*sz+i %sz=i:=by rw [Ba];exact A4 i sz
  grind [Xc]
 grind
theorem SS {cx:BK} {st st':St} {w:World} (h:BF ρ st.mem st.next w) {ts:Array TypeId} {type:TypeId} {xs:List BA} {us:Array Value} {v:BA} (ha:Uq P cx st ts.toList xs=some (v,st')) (hob:st'.ob=true) (hx:Xo (Zb ρ) xs us.toList) (hty:tyOk P st.mem ts.toList xs=true):
  ∃ρ' u w',(Builtin.append_ ts type us).run P w=.ok u w'/\CK ρ cx.floor st st' v w ρ' u w':=by
 obtain ⟨ts⟩:=ts;obtain ⟨us⟩:=us;simp only at ha hx;unfold Uq at ha;split at ha
 .rename_i t tu tts s x txs;cases hx with
  | @cons _ su _ _ hs hx=>
   cases hx with
   | @cons _ ux _ uxs hx _=>
    split at ha
    .rename_i e ut hu hut;split at ha
     .rename_i i zero hi hz;split at ha
      .rename_i b len get o1 n g o2 ht hc;obtain ⟨i2,z,hi2,hz2,hzr,_⟩:=Xw (ρ:=ρ) hz;obtain rfl:i=i2:=by grind
       obtain ⟨cW,ha⟩:=Vr ha;simp only [Ad] at cW;obtain ⟨⟨⟨hzl,hzsc⟩,hsz⟩,hfl⟩:=cW;have hzl:=Ae hzl;have hsz:=Af hsz;have hzs:z.cells.size=i.size:=by rw [<-hzr.1];exact hzl
       simp only [Ag,Aa] at ha;obtain ⟨st1,ho,rfl,rfl⟩:=ha;obtain ⟨_,m2,n2,o4⟩:=I3 ho;obtain ⟨hb,_⟩:=o4 hob;simp only [Ad,Au] at hb;obtain ⟨hb1,hb2,hrm⟩:=hb;have m2:st1.mem=Yi (GL st.mem b) st.next (some ⟨rows (len+n) (Vd get len g),e,some ⟨i.size,len+n,Vd get len g⟩⟩):=m2
       have n2:st1.next=st.next+1:=n2
       obtain ⟨hgl,vs,hF,cR⟩:=U2 (P:=P) (u:=tu) (t:=t) h hu hut hi hz2 hzr hzl hzsc hsz hc hb2 hx.unN;have hnl:=Zh n hgl
       suffices NG P ρ cx.floor st.mem (GL st.mem b) st.next i.size e (len+n) (Vd get len g) w fun w=>(Builtin.append_ (t::tu::tts).toArray type (su::ux::uxs).toArray).run P w by obtain ⟨ρ',u,w',cE,hv,hr,hev⟩:=this;exact ⟨ρ',u,w',cE,hv,by grind,by grind⟩
       unfold Hz at ht;split at ht
       .simp only [Ab,Aa] at ht;obtain ⟨rfl,rfl,rfl,_⟩:=ht;cases hs;obtain ⟨q1,q2⟩:=KE (get:=fun _=>[]) (len:=0) (fun i hi=>absurd hi (AC _)) hgl;exact QB h cx.floor hF hnl hzs hsz hrm (by rw [q2];simp [rows]) q1
       .rename_i b0 off len0 cap;split at ht
        .rename_i blk hm;split at ht
         .rename_i old hold;obtain ⟨dN,ht⟩:=Vr ht;simp only [Ad,AO] at dN;obtain ⟨hno,dN,hoff⟩:=dN;have hoff:=Af hoff;simp only [Ab,Aa] at ht;obtain ⟨rfl,rfl,rfl,_⟩:=ht;obtain ⟨k1,k2,k3⟩:=Kn hold;obtain ⟨r1,r2⟩:=Tc len0 old k2;obtain ⟨q1,q2⟩:=KE r2 hgl;cases hs with
          | sl _ _ _ _ l c hρ cJ hlc=>
           have hbk:=h.blk b0 l blk hρ hm;have k4:off+len0*i.size<=blk.cells.length:=(by omega);refine Oy h cx.floor hF cR hnl hzs hsz hrm hρ hm hno (Af hfl) k4 hlc ?_ (by grind) q1 (by simpa [tyOk,En,hu,hm] using hty);cases cap with
           | ex k=>exact .inr (by simp only [Us] at cJ;rw [cJ];exact Af dN)
           | un zz=>
            have:=Ae dN
            grind [Us]
         .cases ht
        .cases ht
       .rename_i b0 zz off len0 cap;split at ht
        .rename_i blk hm;split at ht
         .rename_i A hA;obtain ⟨dN,ht⟩:=Vr ht;simp only [Ab,Aa] at ht;obtain ⟨rfl,rfl,rfl,rfl⟩:=ht;simp only [Ad,Au] at hb1;obtain ⟨hz1,hz2',cL⟩:=hb1;obtain rfl:=Ae hz1;have hAs:=Ae hz2';cases hs with
          | sla _ _ _ _ _ l c hρ cJ hlc=>
           obtain ⟨dF,dT,cN⟩:=(h.blk b0 l blk hρ hm).arr A hA;rw [hAs] at cN;have hlr:=Zh A.n cN;have hgl0: ∀k,k<len0->(A.get (off+k)).length =i.size:=fun k hk=>cN _ (by omega);obtain ⟨q1,q2⟩:=KE hgl0 hgl;have hm2:(off+len0)*i.size<=A.n*i.size:=Av _ cL;rw [AH] at hm2;refine Oy h cx.floor hF cR hnl hzs hsz hrm hρ hm ((h.blk b0 l blk hρ hm).rows hA).noObj (Af hfl) (by grind) hlc ?_ (by rw [q2,Qc cN cL,dF]) q1 (by simpa [tyOk,En,hu,hm] using hty);cases cap with
           | ex k=>exact .inr (by simp only [Us] at cJ;rw [cJ];exact Af dN)
           | un zz=>
            have:=Ae dN
            grind [Us]
          | slan=>
           obtain ⟨q1,q2⟩:=KE (get:=fun k=>A.get (off+k)) (len:=0) (fun i hi=>absurd hi (AC _)) hgl;obtain ⟨ρ',u,w',cE,hv,hr,hev⟩:=QB (P:=P) (type:=type) (ts:=tts) (xs:=uxs) h cx.floor hF hnl hzs hsz hrm (G:=Vd (fun k=>A.get (off+k)) 0 g) (by rw [q2];simp [rows]) q1;have hbn:b0<st.next:=by
            rcases AS b0 st.next with g | g
            .exact g
            .rw [h.bd b0 g] at hm;cases hm
           refine ⟨ρ',u,w',cE,hv,?_,?_⟩
           .refine (hr.kill b0).remem fun b'=> ?_;simp only [GL,Xi];by_cases e1:b'=st.next
            .rw [AB e1,At (by omega),AB e1]
            simp_all
           .refine hev.remem fun b' hb' cs ty hcs=> ?_;have hne:b'≠b0:=fun e=>by grind
            show Zs (Yi (Yi st.mem b0 none) st.next _) b'=Zs (Yi st.mem st.next _) b';rw [Zx _ _ (by omega),Zx _ _ hne,Zx _ _ (by omega)]
         .cases ht
        .cases ht
       .cases ht
      .cases ha
     .cases ha
    .cases ha
 .cases ha
theorem Sk {st st':St} {w:World} (h:BF ρ st.mem st.next w) (floor:Nat) {ts:Array TypeId} {type:TypeId} {xs:List BA} {us:Array Value} {v:BA} (ha:GD P floor st ts.toList xs=some (v,st')) (hx:Xo (Zb ρ) xs us.toList):
  ∃ρ' u w',(Builtin.copy_ ts type us).run P w=.ok u w'/\CK ρ floor st st' v w ρ' u w'/\st'.env=st.env/\st'.ob=st.ob:=by
 obtain ⟨ts⟩:=ts;obtain ⟨us⟩:=us;simp only at ha hx;unfold GD at ha;split at ha
 .rename_i t _ d x _;cases hx with
  | @cons _ ud _ _ hd hx=>
   cases hx with
   | @cons _ ux _ uxs hx _=>
    split at ha
    .rename_i e hu;split at ha
     .rename_i i hi;split at ha
      .rename_i m src hcs;cases hc:(Nat.beq src.length (m*i.size)&&src.all B4) with
       | false=>grind
       | true=>
        rw [hc,Ah] at ha;simp only [Ad] at hc;have hsl:=Ae hc.1;have hsc:=hc.2;obtain ⟨cC,cS⟩:=Xt (P:=P) h hcs hx hsl;split at ha
        .cases hd;simp only [Ab,Aa] at ha;obtain ⟨rfl,rfl⟩:=ha;obtain ⟨vs,hvs,hfc⟩:=cS 0 (AD _);have dU:(Builtin.firstCells i.size 0 ux).run P w=.ok vs w:=hfc w.drawn;refine ⟨ρ,_,w,?_,⟨.int _ _,h,Ev.refl _ _ _ _ _ h.dom⟩,rfl,rfl⟩;simp_all [Builtin.copy_,run_underlying,Zm,goInt]
        .rename_i dn dg;obtain ⟨hdn,ha'⟩:=Vr ha;clear ha;obtain rfl:=Ae hdn;simp only [Ab,Aa] at ha';obtain ⟨rfl,rfl⟩:=ha';obtain ⟨vs,hvs,hfc⟩:=cS 0 (AD _);have dU:(Builtin.firstCells i.size 0 ux).run P w=.ok vs w:=hfc w.drawn;have hv0:vs= #[]:=by
          have:vs.size=0:=by rw [<-hvs.1];simp
          grind
         subst hv0;cases hd with
         | datn=>refine ⟨ρ,_,w,?_,⟨.int _ _,h,Ev.refl _ _ _ _ _ h.dom⟩,rfl,rfl⟩;simp_all [Builtin.copy_,run_underlying,Zm,goInt]
         | datz=>refine ⟨ρ,_,w,?_,⟨.int _ _,h,Ev.refl _ _ _ _ _ h.dom⟩,rfl,rfl⟩;simp_all [Builtin.copy_,run_underlying,Zm,goInt,storeCells]
         | dat=>refine ⟨ρ,_,w,?_,⟨.int _ _,h,Ev.refl _ _ _ _ _ h.dom⟩,rfl,rfl⟩;simp_all [Builtin.copy_,run_underlying,Zm,goInt,storeCells]
        .rename_i b off len cap;split at ha
         .rename_i blk hm;dsimp only at ha;cases hf:(!blk.isObj&&(Nat.ble floor b&&Nat.ble (off+(Nat.min m len)*i.size) blk.cells.length)) with
          | false=>grind
          | true=>
           rw [hf,Ah] at ha;simp only [Ad,AO] at hf;obtain ⟨hno,hf⟩:=hf;have hfl:=Af hf.1;have cL:=Af hf.2;simp only [Ab,Aa] at ha;obtain ⟨rfl,rfl⟩:=ha;cases hd with
           | sl _ _ _ _ l c hρ cJ hlc=>
            have hmin:Nat.min m len<=m:=Nat.min_le_left _ _;have hmul:Nat.min m len*i.size<=m*i.size:=Av _ hmin;obtain ⟨vs,hvs,hfc⟩:=cS (Nat.min m len) hmin;have dU:(Builtin.firstCells i.size (Nat.min m len) ux).run P w=.ok vs w:=hfc w.drawn;have cR:=Zb.cells_oneCell hvs (Az.2 fun a ha=>Az.1 hsc a (List.mem_of_mem_take ha));have hvl:(src.take (Nat.min m len*i.size)).length =Nat.min m len*i.size:=(by grind);obtain ⟨cur,el,hw,hcsz,cB⟩:=h.write hρ hm (off:=off) (cs:=src.take (Nat.min m len*i.size)) (vs:=vs.toList) hno (by simpa using hvs.1.symm) (by grind) (fun j h1 h2=>by simpa using hvs.2 j h1 (by grind));have hst:=run_storeCells_at P l.blk (l.base+off) el vs.toList 0 cur w hw (by grind) cR;rw [A1] at hst;refine ⟨ρ,.int .i64 (Nat.min m len),w.setRow l.blk (cur.toList.take (l.base+off)++vs.toList++cur.toList.drop (l.base+off+vs.toList.length)).toArray,?_,⟨.int _ _,?_,Ev.ofWrite h hρ hfl _ _⟩,rfl,rfl⟩;all_goals simp_all [Builtin.copy_,run_underlying,Zm,goInt,St.withMem]
         .cases ha
        .cases ha
      .cases ha
     .cases ha
    .cases ha
 .cases ha
theorem Vl {mem:BH} {next:Nat} {w:World} (h:BF ρ mem next w) {n sz:Nat} {g:Nat->List BA} {ux:Value} (hx:Zb ρ (.dat n g) ux) (hg: ∀i,i<n->(g i).length =sz) (hsz:1<=sz) {m:Nat} (hm:m<=n):
  (∀w,(Builtin.lenOf ux).run P w=.ok n w)/\ ∃vs:Array Value,Wx ρ (rows m g) vs/\ ∀d,(Builtin.firstCells sz m ux).run P {w with drawn:=d}=.ok vs {w with drawn:=d}:=by
 cases hx with
 | datn=>
  obtain rfl:m=0:=by omega
  exact ⟨fun w=>by simp [Builtin.lenOf], #[],⟨by simp [rows],fun i h1 h2=>by grind⟩,fun d=>by simp [Builtin.firstCells]⟩
 | datz=>
  obtain rfl:m=0:=by omega
  exact ⟨fun w=>by simp [Builtin.lenOf], #[],⟨by simp [rows],fun i h1 h2=>by grind⟩,fun d=>by simp [Builtin.firstCells,loadCells,loadCellsFrom]⟩
 | dat _ _ blk base sz' cap val cJ eB hv hh=>
  refine ⟨fun w=>by simp [Builtin.lenOf],?_⟩;have hg': ∀i,i<m->(g i).length =sz:=fun i hi=>hg i (by omega);have hl:=Zh m hg';have hdiv: ∀k,k<m*sz->k / sz<m/\k %sz<sz/\k / sz*sz+k %sz=k:=fun k hk=>
   ⟨AP (by grind),A2 _ hsz,by rw [Ba];exact A4 k sz⟩
  have dD: ∀(d k:Nat),k<m*sz->({w with drawn:=d}:World).cell? ((⟨blk,base,none⟩:Addr).add k)=some (val (k / sz) (k %sz)):=by
   intro d k hk;obtain ⟨hq,hj,e4⟩:=hdiv k hk;have hs:sz'=sz:=by grind
   obtain ⟨cs,el,fz,e1,e2⟩:=hh (k / sz) (k %sz) (by omega) (by omega);have e3:=h.old _ _ e1
   grind [Yf,World.cell?]
  refine ⟨_,⟨?_,?_⟩,fun d=>by simp only [Builtin.firstCells];exact run_loadCells _ _ _ (fun k=>val (k / sz) (k %sz)) (dD d)⟩
  .simp [hl]
  .intro k h1 h2;obtain ⟨hq,hj,e4⟩:=hdiv k (by grind);have hj':k %sz<(g (k / sz)).length :=by grind
   have hr:=Xc m hg' (k / sz) (k %sz) hq hj;rw [e4,Ao h1,Ao hj'] at hr;rw [Ac hr]
   simpa using (hv (k / sz) (k %sz) (by omega) hj').mono (IS ρ)
theorem QN {g:Nat->List BA} {sz n m:Nat} (hg: ∀i,i<n->(g i).length =sz) (hm:m<=n):(rows n g).take (m*sz)=rows m g:=by
 have:=Qc (off:=0) (len:=m) hg (by omega)
 grind
theorem W4 {get g:Nat->List BA} {sz N off n:Nat} (hl: ∀i,i<N->(get i).length =sz) (hg: ∀i,i<n->(g i).length =sz) (h:off+n<=N):
  (∀i,i<N->(Wg get off n g i).length =sz)/\rows N (Wg get off n g)=(rows N get).take (off*sz)++rows n g++(rows N get).drop (off*sz+n*sz):=by
 have h1: ∀i,i<N->(Wg get off n g i).length =sz:=fun i hi=>by
  unfold Wg;cases e:(Nat.ble off i&&Nat.ble (i+1) (off+n)) with
  | true=>
   simp only [Ad] at e;have e1:=Af e.1;have e2:=Af e.2
   grind
  | false=>exact hl _ hi
 refine ⟨h1,?_⟩;obtain ⟨r,rfl⟩: ∃r,N=off+(n+r):=⟨N - off - n,by omega⟩
 have e2:off*sz+n*sz=(off+n)*sz:=(AH _ _ _).symm;rw [QN hl (by omega),e2];have e3:(rows (off+(n+r)) get).drop ((off+n)*sz)=rows r fun k=>get (off+n+k):=by
  rw [Qc (off:=off+n) (len:=r) hl (by omega)];rw [AV];have:=Zh _ hl
  grind
 rw [e3];unfold rows;rw [List.range_add,List.range_add,List.flatMap_append,List.map_append,List.flatMap_append,<-AG]
 congr 1
 .congr 1
  .refine Vq fun i hi=> ?_;have:=AM.1 hi;unfold Wg;rw [show Nat.ble off i=false from AT.2 fun e=>by have:=Af e;omega];rfl
  .rw [List.flatMap_map];refine Vq fun i hi=> ?_;have:=AM.1 hi;unfold Wg;rw [AI (show off<=off+i by omega),AI (show off+i+1<=off+n by omega),Nat.add_sub_cancel_left];rfl
 .rw [List.map_map,List.flatMap_map];refine Vq fun i hi=> ?_;unfold Wg;show (bif Nat.ble off (off+(n+i))&&Nat.ble (off+(n+i)+1) (off+n) then _ else _)=_;rw [show Nat.ble (off+(n+i)+1) (off+n)=false from AT.2 fun e=>by have:=Af e;omega,Bool.and_false,Ai]
  grind
theorem UU {mem:BH} {next:Nat} {w:World} (h:BF ρ mem next w) {sz:Nat} (hsz:1<=sz) {x:BA} {ux:Value} {m:Nat} {g:Nat->List BA} {o:Bool} (hc:MW mem sz x=some (m,g,o)) (ho:o=true) (hx:Zb ρ x ux):
  (∀k,k<m->(g k).length =sz/\(g k).all B4=true)/\ ∀n,n<=m->(∀w,(Builtin.lenOf ux).run P w=.ok m w)/\ ∃vs:Array Value,Wx ρ (rows n g) vs/\ ∀d,(Builtin.firstCells sz n ux).run P {w with drawn:=d}=.ok vs {w with drawn:=d}:=by
 subst ho;have part: ∀(b z off len c:Nat) (l:BS) (blk:BE) (A:CJ),ρ b=some l->Zs mem b=some blk->blk.arr=some A->len<=c->(Nat.beq z sz&&(Nat.beq A.sz sz&&(decide (off+len<=A.n)&&C9 sz len fun k=>A.get (off+k))))=true->
   (∀k,k<len->(A.get (off+k)).length =sz/\(A.get (off+k)).all B4=true)/\ ∀n,n<=len->(∀w,(Builtin.lenOf (.slice (some ⟨l.blk,l.base+off*z,none⟩) len c)).run P w=.ok len w)/\ ∃vs:Array Value,Wx ρ (rows n fun k=>A.get (off+k)) vs/\ ∀d,(Builtin.firstCells sz n (.slice (some ⟨l.blk,l.base+off*z,none⟩) len c)).run P {w with drawn:=d}=.ok vs {w with drawn:=d}:=by
  intro b z off len c l blk A hρ hm hA cC ho;simp only [Ad,Au] at ho;obtain ⟨k1,k2,k3,k4⟩:=ho;obtain rfl:=Ae k1;have k2:=Ae k2;have k4:=Ht k4;refine ⟨k4,fun n hn=> ?_⟩;have hno:=((h.blk b l blk hρ hm).rows hA).noObj;obtain ⟨dF,dT,cN⟩:=(h.blk b l blk hρ hm).arr A hA;rw [k2] at cN;have hlr:=Zh A.n cN;have hm2:(off+len)*z<=A.n*z:=Av _ k3;rw [AH] at hm2;have hpl:=Qc cN k3;have hL:(rows len fun k=>A.get (off+k)).length =len*z:=Zh len fun i hi=>(k4 i hi).1;have hcs:Yj mem z (.sl b (off*z) len (.ex c))=some (len,rows len fun k=>A.get (off+k)):=by simp_all [Yj,cut]
  obtain ⟨q1,q2⟩:=Xt (P:=P) h hcs (.sl b (off*z) len (.ex c) l c hρ rfl cC) hL
  grind [QN]
 have none0: ∀(g:Nat->List BA) (n:Nat) (p:Option Addr) (c:Nat),n<=0->(∀w,(Builtin.lenOf (.slice p 0 c)).run P w=.ok 0 w)/\ ∃vs:Array Value,Wx ρ (rows n g) vs/\ ∀d,(Builtin.firstCells sz n (.slice p 0 c)).run P {w with drawn:=d}=.ok vs {w with drawn:=d}:=by
  intro g n p c hn;obtain rfl:n=0:=by omega
  cases p with
  | none=>exact ⟨fun w=>by simp [Builtin.lenOf], #[],⟨by simp [rows],fun i h1 h2=>by grind⟩,fun d=>by simp [Builtin.firstCells]⟩
  | some a=>refine ⟨fun w=>by simp [Builtin.lenOf],_,⟨?_,fun i h1 h2=>by simp [rows] at h1⟩,fun d=>by simp only [Builtin.firstCells];exact run_loadCells _ _ _ (fun _=>undef) fun k hk=>by grind⟩;simp [rows]
 unfold MW at hc;split at hc
 .simp only [Ab,Aa] at hc;obtain ⟨rfl,rfl,_⟩:=hc;cases hx;exact ⟨fun k hk=>absurd hk (AC _),fun n hn=>none0 _ n none 0 hn⟩
 .rename_i n' g';simp only [Ab,Aa] at hc;obtain ⟨rfl,rfl,h0⟩:=hc;have hp:=Ht h0;exact ⟨hp,fun n hn=>Vl (P:=P) h hx (fun i hi=>(hp i hi).1) hsz hn⟩
 .split at hc
  .rename_i blk hm;split at hc
   .rename_i A hA;simp only [Ab,Aa] at hc;obtain ⟨rfl,rfl,h0⟩:=hc;cases hx with
    | sla _ _ _ _ _ l c hρ cJ cC=>grind
    | slan=>exact ⟨fun k hk=>absurd hk (AC _),fun n hn=>none0 _ n none 0 hn⟩
   .cases hc
  .cases hc
 .split at hc
  .rename_i blk hm;split at hc
   .rename_i A hA;simp only [Ab,Aa] at hc;obtain ⟨rfl,rfl,h0⟩:=hc;cases hx with
    | slv _ _ _ _ l c hρ cC=>grind
    | slve=>exact ⟨fun k hk=>absurd hk (AC _),fun n hn=>none0 _ n _ _ hn⟩
    | slvn=>exact ⟨fun k hk=>absurd hk (AC _),fun n hn=>none0 _ n none 0 hn⟩
   .cases hc
  .cases hc
 .cases hc
theorem BF.reblk {mem:BH} {next:Nat} {w:World} (h:BF ρ mem next w) {b:Nat} {blk blk':BE} (hm:Zs mem b=some blk) (hb: ∀l,ρ b=some l->Xu ρ w blk l->Xu ρ w blk' l):BF ρ (Yi mem b (some blk')) next w:=by
 have iff: ∀c,(Zs (Yi mem b (some blk')) c).isSome =true->(Zs mem c).isSome =true:=fun c hc=>by
  grind [Xi]
 have hlt:b<next:=by
  rcases AS b next with q | q
  .exact q
  .rw [h.bd b q] at hm;cases hm
 refine ⟨h.dom,fun c c' m m' e e' he hs hs'=>h.inj c c' m m' e e' he (iff c hs) (iff c' hs'),fun c m ac e hc=> ?_,h.old,fun c m e hs=>h.sep c m e (iff c hs),h.real,fun c hc=> ?_,h.ldom⟩
 .grind [Xi,blk]
 .rw [Zx _ _ (by omega)];exact h.bd c hc
theorem Ev.put {mem:BH} {next:Nat} {w:World} (h:BF ρ mem next w) (floor:Nat) {b:Nat} {blk:BE} {A:CJ} (hm:Zs mem b=some blk) (hA:blk.arr=some A) (o:Option BE):Ev ρ ρ floor mem next (Yi mem b o) next w w where
 ext:=BD.le_refl _
 new _ _:=rfl
 nxt:=Ak _
 unborn k _ e cs ty hk:=by
  grind [Zx]
 frame _ _ hk _:=hk
 fresh k m hk e:=by have:=h.dom k m e;omega
 size:=Ak _
 os:=rfl
 tape:=rfl
 output:=rfl
 still _ _:=rfl
theorem PG {cx:BK} {st st':St} {w:World} (h:BF ρ st.mem st.next w) {ts:Array TypeId} {type:TypeId} {us:Array Value} {b sz off len:Nat} {d x:BA} {xs:List BA} {v:BA} (ha:Ea P cx st ts.toList b sz off len x=some (v,st')) (hob:st'.ob=true) (hx:Xo (Zb ρ) (d::x::xs) us.toList)
  (hd: ∀u,Zb ρ d u->(∃l c,ρ b=some l/\len<=c/\u=.slice (some ⟨l.blk,l.base+off*sz,none⟩) len c)\/(len=0/\ ∃p c,u=.slice p 0 c)):
  ∃ρ' u w',(Builtin.copy_ ts type us).run P w=.ok u w'/\CK ρ cx.floor st st' v w ρ' u w':=by
 obtain ⟨ts⟩:=ts;obtain ⟨us⟩:=us;simp only at ha hx;unfold Ea at ha;split at ha
 .rename_i t _;cases hx with
  | @cons _ ud _ _ hd0 hx=>
   cases hx with
   | @cons _ ux _ uxs hx _=>
    split at ha
    .rename_i e hu;split at ha
     .rename_i i blk hi hm;split at ha
      .rename_i A m g o hA hcs;obtain ⟨cW,ha⟩:=Vr ha;simp only [Ad] at cW;have hfl:=Af cW.1;have hsz:=Af cW.2;simp only [Ag,Aa] at ha;obtain ⟨st1,ho,rfl,rfl⟩:=ha;obtain ⟨_,m2,n2,o4⟩:=I3 ho;obtain ⟨hb,_⟩:=o4 hob;simp only [Ad,Au] at hb;obtain ⟨k1,k2,k3,k4⟩:=hb;obtain rfl:=Ae k1;have k2:=Ae k2;have m2:st1.mem=Yi st.mem b (some ⟨rows A.n (Wg A.get off (Nat.min m len) g),blk.ty,some ⟨A.sz,A.n,Wg A.get off (Nat.min m len) g⟩⟩):=m2;have n2:st1.next=st.next:=n2
       obtain ⟨hg,cS⟩:=UU (P:=P) h hsz hcs k4 hx;have hmin:Nat.min m len<=m:=Nat.min_le_left _ _;have hmin2:Nat.min m len<=len:=Nat.min_le_right _ _;obtain ⟨cC,vs,hvs,hfc⟩:=cS (Nat.min m len) hmin;have dU:(Builtin.firstCells i.size (Nat.min m len) ux).run P w=.ok vs w:=hfc w.drawn;have hgl: ∀k,k<Nat.min m len->(g k).length =i.size:=fun k hk=>(hg k (by omega)).1;have hrl:=Zh (Nat.min m len) hgl;have cR:=Zb.cells_oneCell hvs (I5 _ fun k hk=>(hg k (by omega)).2);have hbn:b<st.next:=by
        rcases AS b st.next with q | q
        .exact q
        .rw [h.bd b q] at hm;cases hm
       have nothing:Nat.min m len=0->BF ρ st1.mem st1.next w/\Ev ρ ρ cx.floor st.mem st.next st1.mem st1.next w w:=fun e0=>by
        rw [m2,n2,e0];have same: ∀k,Wg A.get off 0 g k=A.get k:=fun k=>by
         unfold Wg;cases e:(Nat.ble off k&&Nat.ble (k+1) (off+0)) with
         | true=>simp only [Ad] at e;have e1:=Af e.1;have e2:=Af e.2;omega
         | false=>rfl
        have same:Wg A.get off 0 g=A.get:=funext same;rw [same];refine ⟨?_,Ev.put h cx.floor hm hA _⟩;refine h.reblk hm fun l hρ hbk=> ?_;have hbk:=hbk.rows hA;obtain ⟨dF,dT,cN⟩:=hbk.arr A hA;refine .plain ⟨by have:=hbk.typ;grind,by rw [hbk.n,dF],hbk.tot,fun B hB=> ?_,?_⟩
        .obtain rfl:=Ac hB;exact ⟨rfl,dT,cN⟩
        .have:=hbk.cells
         grind
       rcases hd ud hd0 with ⟨l,c,hρ,hlc,rfl⟩ | ⟨rfl,p,c,rfl⟩
       .have hb0:=(h.blk b l blk hρ hm).rows hA;have hno:=hb0.noObj;obtain ⟨dF,dT,cN⟩:=hb0.arr A hA;rw [k2] at cN;have hlr:=Zh A.n cN;have hfitN:off+Nat.min m len<=A.n:=(by omega);obtain ⟨c1,c2⟩:=W4 cN hgl hfitN;have hm3:(off+Nat.min m len)*i.size<=A.n*i.size:=Av _ hfitN;rw [AH] at hm3;obtain ⟨cur,el,hw,hcsz,cB⟩:=h.write hρ hm (off:=off*i.size) (cs:=rows (Nat.min m len) g) (vs:=vs.toList) hno (by simpa using hvs.1.symm) (by grind) (fun j h1 h2=>by simpa using hvs.2 j h1 (by grind));have dW:=hb0.splice (off:=off*i.size) (cs:=rows (Nat.min m len) g) (vs:=vs.toList) (by simpa using hvs.1.symm) (by grind) (fun j h1 h2=>by simpa using hvs.2 j h1 (by grind)) blk.ty none;have hst:=run_storeCells_at P l.blk (l.base+off*i.size) el vs.toList 0 cur w hw (by grind) cR;rw [A1] at hst;rw [hrl,dF,<-c2] at cB dW;refine ⟨ρ,.int .i64 (Nat.min m len:Nat),w.setRow l.blk (cur.toList.take (l.base+off*i.size)++vs.toList++cur.toList.drop (l.base+off*i.size+vs.toList.length)).toArray,?_,.int _ _,?_,?_⟩
        .have hl2:=cC w;simp [Builtin.copy_,run_underlying hu,cC,Zm hi,dU,goInt,hst,-Array.length_toList,-List.append_assoc]
        .rw [m2,n2];have:=cB.setArr ⟨A.sz,A.n,.flat (Wg A.get off (Nat.min m len) g)⟩ dW rfl dT (by rw [k2];exact c1);exact this
        grind [Ev.ofWrite]
       .have e0:Nat.min m 0=0:=Nat.min_zero m;obtain ⟨n1,n3⟩:=nothing e0;refine ⟨ρ,.int .i64 (Nat.min m 0:Nat),w,?_,.int _ _,n1,n3⟩;rw [e0] at dU hvs;have hv0:vs= #[]:=by
         have:vs.size=0:=by rw [<-hvs.1];simp [rows]
         grind
        subst hv0;cases p with
        | none=>simp [Builtin.copy_,run_underlying hu,cC,Zm hi,dU,goInt]
        | some a=>simp [Builtin.copy_,run_underlying hu,cC,Zm hi,dU,goInt,storeCells]
      .cases ha
     .cases ha
    .cases ha
 .cases ha
theorem Tz {st st':St} {w:World} (h:BF ρ st.mem st.next w) (floor:Nat) {ts:Array TypeId} {type:TypeId} {xs:List BA} {us:Array Value} {v:BA} (ha:Fh P floor st ts.toList xs=some (v,st')) (hx:Xo (Zb ρ) xs us.toList):
  ∃ρ' u w',(Builtin.clear_ ts type us).run P w=.ok u w'/\CK ρ floor st st' v w ρ' u w'/\st'.env=st.env/\st'.ob=st.ob:=by
 obtain ⟨ts⟩:=ts;obtain ⟨us⟩:=us;simp only at ha hx;unfold Fh at ha;have unit:Zb ρ (.tup []) (.tuple #[]):=.tup [] #[] rfl fun i h1 _=>by simp at h1
 split at ha
 .rename_i t _ d _;cases hx with
  | @cons _ ud _ _ hd _=>
   split at ha
   .rename_i e hu;split at ha
    .rename_i i zero hi hz;obtain ⟨i2,z,hi2,_,hzr,hzv⟩:=Xw (ρ:=ρ) hz;split at ha
     .cases hd;simp only [Ab,Aa] at ha;obtain ⟨rfl,rfl⟩:=ha;exact ⟨ρ,.tuple #[],w,by simp [Builtin.clear_,run_underlying hu],⟨unit,h,Ev.refl _ _ _ _ _ h.dom⟩,rfl,rfl⟩
     .rename_i b off len cap;cases hd with
      | sl _ _ _ _ l c hρ cJ hlc=>
       rcases (by cases hl0:Nat.beq len 0 with
         | true=>rw [hl0] at ha;exact .inl ⟨rfl,ha⟩
         | false=>rw [hl0] at ha;exact .inr ⟨rfl,ha⟩:(Nat.beq len 0=true/\_)\/(Nat.beq len 0=false/\_)) with ⟨hl0,ha⟩ | ⟨hl0,ha⟩
       .have hl0:=Ae hl0;subst hl0;simp only [Ah,Ab,Aa] at ha;obtain ⟨rfl,rfl⟩:=ha;exact ⟨ρ,.tuple #[],w,by simp [Builtin.clear_,run_underlying hu],⟨unit,h,Ev.refl _ _ _ _ _ h.dom⟩,rfl,rfl⟩
       .obtain ⟨hc,ha⟩:=Vr ha;simp only [Ad] at hc;obtain ⟨⟨hzl,hzs⟩,hfl⟩:=hc;have hzl:=Ae hzl;have hfl:=Af hfl;split at ha
        .rename_i blk hm;obtain ⟨cL,ha⟩:=Vr ha;simp only [Ad,AO] at cL;obtain ⟨hno,cL⟩:=cL;have cL:=Af cL;simp only [Ab,Aa] at ha;obtain ⟨rfl,rfl⟩:=ha;have hrl:(B5 len zero).length =len*i.size:=(by rw [Jf,hzl]);have dG:Wx ρ (B5 len zero) (Builtin.zeroCells z.cells len):=Hp hzr len (len*z.cells.size) (by rw [hzr.1]);have cR: ∀v∈(Builtin.zeroCells z.cells len).toList,v.oneCell'=true:=Zb.cells_oneCell dG (by
          grind [B5])
         obtain ⟨cur,el,hw,hcsz,cB⟩:=h.write hρ hm (off:=off) (cs:=B5 len zero) (vs:=(Builtin.zeroCells z.cells len).toList) hno (by simpa using dG.1.symm) (by grind) (fun j h1 h2=>by simpa using dG.2 j h1 (by grind));have hst:=run_storeCells_at P l.blk (l.base+off) el (Builtin.zeroCells z.cells len).toList 0 cur w hw (by grind) cR;rw [A1] at hst;have hne:len≠0:=fun e=>by simp_all
         refine ⟨ρ,.tuple #[],w.setRow l.blk (cur.toList.take (l.base+off)++(Builtin.zeroCells z.cells len).toList ++cur.toList.drop (l.base+off+(Builtin.zeroCells z.cells len).toList.length)).toArray,?_,⟨unit,?_,Ev.ofWrite h hρ hfl _ _⟩,rfl,rfl⟩;all_goals simp_all [Builtin.clear_,run_underlying,St.withMem]
        .cases ha
     .cases ha
    .cases ha
   .cases ha
 .cases ha
end
section
variable {P:Program} {ρ:BD}
structure Yq (floor:Nat) (st st':St):Prop where
 nxt:st.next<=st'.next
 bd:(∀b,st.next<=b->Zs st.mem b=none)-> ∀b,st'.next<=b->Zs st'.mem b=none
 low:floor<=st.next-> ∀b,b<floor->Zs st'.mem b=Zs st.mem b
 ob:st'.ob=true->st.ob=true
theorem Yq.refl (floor:Nat) (st:St):Yq floor st st:=⟨Ak _,fun h=>h,fun _ _ _=>rfl,fun h=>h⟩
theorem Yq.trans {floor:Nat} {a b c:St} (h:Yq floor a b) (k:Yq floor b c):Yq floor a c:=
 ⟨AE h.nxt k.nxt,fun x=>k.bd (h.bd x),fun x d hd=>(k.low (AE x h.nxt) d hd).trans (h.low x d hd),fun x=>h.ob (k.ob x)⟩
theorem Yq.write {floor:Nat} (st:St) {b:Nat} {ab:BE} (o:Option BE) (hf:floor<=b) (hm:Zs st.mem b=some ab):Yq floor st (st.withMem (Yi st.mem b o)) where
 nxt:=Ak _
 bd h k hk:=by
  have hne:k≠b:=fun e=>by rw [e,] at hk;rw [h b hk] at hm;cases hm
  show Zs (Yi st.mem b o) k=none;rw [Zx _ _ hne];exact h k hk
 low _ k hk:=Zx _ _ (by omega)
 ob h:=h
theorem Yq.new {floor:Nat} (st:St) (cs:List BA) (ty:TypeId):Yq floor st (BY st cs ty) where
 nxt:=Bt _
 bd h k hk:=by
  have hk':st.next+1<=k:=hk
  show Zs (Yi st.mem st.next _) k=none
  grind [Zx]
 low hf k hk:=Zx _ _ (by omega)
 ob h:=h
def Ct (R:BI):Prop:= ∀cx todo st st',R cx todo st=some st'->Yq cx.floor st st'
theorem Yn {cx:BK} {st st':St} {b:Bool} (h:st.owe cx b=some st'):st'.env=st.env/\st'.mem=st.mem/\st'.next=st.next/\(st'.ob=true->b=true/\st.ob=true):=by
 obtain ⟨env,mem,next,orc,ob⟩:=st
 grind [St.owe]
theorem Qa {st st':St} {b e:Bool} (h:st.test b=(e,st')):st'.env=st.env/\st'.mem=st.mem/\st'.next=st.next/\(st'.ob=true->e=b/\st.ob=true):=by
 obtain ⟨env,mem,next,orc,ob⟩:=st;cases orc with
 | nil=>
  grind [St.test]
 | cons c r=>
  grind [St.test]
theorem Xp {cx:BK} {st st':St} {dst:Option Tmp} {v:BA} (h:st.put cx dst v=some st'):st'.mem=st.mem/\st'.next=st.next/\st'.ob=st.ob/\
  ((dst=none/\st'.env=st.env)\/ ∃d,dst=some d/\d<cx.n/\st'.env=T.set .undef st.env d v):=by
 obtain ⟨env,mem,next,orc,ob⟩:=st;cases dst with
 | none=>
  grind [St.put]
 | some d=>
  simp only [St.put] at h;cases hb:Nat.ble (d+1) cx.n with
  | false=>grind
  | true=>rw [hb,Ah] at h;obtain rfl:=Ac h;exact ⟨rfl,rfl,rfl,.inr ⟨d,rfl,Af hb,rfl⟩⟩
theorem Yq.same {floor:Nat} {st st':St} (hm:st'.mem=st.mem) (hn:st'.next=st.next) (ho:st'.ob=true->st.ob=true):Yq floor st st':=
 ⟨by grind,fun h b hb=>by grind,fun _ b _=>by rw [hm],ho⟩
theorem Zq {α:Type} {c:Bool} {x:Option α} {y:α} (h:(bif c then x else none)=some y):c=true/\x=some y:=by grind
theorem Wv {α:Type} {c:Bool} {x z:Option α} {y:α} (h:(bif c then x else z)=some y):(c=true/\x=some y)\/(c=false/\z=some y):=by grind
theorem XS {floor:Nat} {st st':St} {t:TypeId} {x v:BA} (h:Fj P floor st t x v=some st'):Yq floor st st'/\st'.env=st.env:=by
 unfold Fj at h;split at h
 .obtain ⟨hc,h⟩:=Zq h;simp only [Ad] at hc;split at h
  .rename_i blk hm;obtain ⟨_,h⟩:=Zq h;obtain rfl:=Ac h;exact ⟨Yq.write st _ (Af hc.1.1.1) hm,rfl⟩
  .cases h
 .cases h
theorem Sm {cx:BK} {st st':St} {t:TypeId} {x v:BA} (h:Ft P cx st t x v=some st'):Yq cx.floor st st'/\st'.env=st.env:=by
 unfold Ft at h;split at h
 .obtain ⟨hc,h⟩:=Zq h;simp only [Ad] at hc;split at h
  .rename_i blk hm;split at h
   .split at h
    .rename_i rw1 st1 dO;obtain ⟨s1,s2,s3,s4⟩:=MO dO;obtain ⟨o1,o2,o3,o4⟩:=Yn h;have a1:Yq cx.floor st st1:=Yq.same s2 s3 fun x=>(s4 x).2;exact ⟨(a1.trans (Yq.write st1 _ (Af hc.1.1.1.1) (by rw [s2];exact hm))).trans (Yq.same o2 o3 fun x=>(o4 x).2),o1.trans s1⟩
    .cases h
   .cases h
  .cases h
 .cases h
theorem S2 {st st':St} {t:TypeId} {len:Nat} {ps:List (Nat×BA)} {v:BA} {un:Bool} (floor:Nat) (h:Vv P un st t len ps=some (v,st')):Yq floor st st'/\st'.env=st.env:=by
 unfold Vv at h;split at h
 .split at h
  .obtain ⟨_,h⟩:=Zq h;split at h
   .simp only [Ab,Aa] at h;obtain ⟨_,rfl⟩:=h;exact ⟨Yq.new st _ _,rfl⟩
   .cases h
  .cases h
 .cases h
theorem PT {st st':St} {t:TypeId} {x y v:BA} (floor:Nat) (h:Wa P st t x y=some (v,st')):Yq floor st st'/\st'.env=st.env:=by
 unfold Wa at h;split at h
 .split at h
  .obtain ⟨_,h⟩:=Zq h;simp only [Ab,Aa] at h;obtain ⟨_,rfl⟩:=h;exact ⟨Yq.new st _ _,rfl⟩
  .cases h
 .cases h
theorem Sg {floor:Nat} {st st':St} {ts:List TypeId} {xs:List BA} {v:BA} (h:Ui P floor st ts xs=some (v,st')):Yq floor st st'/\st'.env=st.env:=by
 unfold Ui at h;split at h
 .split at h
  .split at h
   .split at h
    .obtain ⟨_,h⟩:=Zq h;split at h
     .rcases Wv h with ⟨_,h⟩ | ⟨_,h⟩
      .grind [Yq.refl]
      .obtain ⟨_,h⟩:=Zq h;simp only [Ab,Aa] at h;obtain ⟨_,rfl⟩:=h;exact ⟨Yq.new st _ _,rfl⟩
     .split at h
      .rename_i blk hm;split at h
       .obtain ⟨_,h⟩:=Zq h;split at h
        .rcases Wv h with ⟨_,h⟩ | ⟨_,h⟩
         .obtain ⟨hc,h⟩:=Zq h;simp only [Ad] at hc;simp only [Ab,Aa] at h;obtain ⟨_,rfl⟩:=h;exact ⟨Yq.write st _ (Af hc.1) hm,rfl⟩
         .simp only [Ab,Aa] at h;obtain ⟨_,rfl⟩:=h;exact ⟨Yq.new st _ _,rfl⟩
        .obtain ⟨hc,h⟩:=Zq h;simp only [Ad] at hc;have hf:=Af hc.2;rcases Wv h with ⟨_,h⟩ | ⟨_,h⟩
         .simp only [Ab,Aa] at h;obtain ⟨_,rfl⟩:=h;exact ⟨Yq.write st _ hf hm,rfl⟩
         .obtain ⟨_,h⟩:=Zq h;simp only [Ab,Aa] at h;obtain ⟨_,rfl⟩:=h;exact ⟨(Yq.write st none hf hm).trans (Yq.new _ _ _),rfl⟩
       .cases h
      .cases h
     .cases h
    .cases h
   .cases h
  .cases h
 .cases h
theorem Yq.put {floor:Nat} (st:St) (cs:Option BE) {st':St} (hm:st'.mem=Yi st.mem st.next cs) (hn:st'.next=st.next+1) (ho:st'.ob=true->st.ob=true):Yq floor st st' where
 nxt:=by grind
 bd h k hk:=by
  grind [Zx]
 low hf k hk:=by grind [Zx]
 ob:=ho
theorem S3 {cx:BK} {st st':St} {t:TypeId} {x y v:BA} (h:Vw P cx st t x y=some (v,st')):Yq cx.floor st st'/\st'.env=st.env:=by
 unfold Vw at h;split at h
 .split at h
  .obtain ⟨_,h⟩:=Zq h;simp only [Ag,Aa] at h;obtain ⟨_,h1,_,rfl⟩:=h;obtain ⟨o1,o2,o3,o4⟩:=Yn h1;exact ⟨Yq.put st _ o2 (o3.trans rfl) fun x=>(o4 x).2,o1⟩
  .cases h
 .cases h
theorem Tv {cx:BK} {st st':St} {ts:List TypeId} {xs:List BA} {v:BA} (h:Qz P cx st ts xs=some (v,st')):Yq cx.floor st st'/\st'.env=st.env:=by
 unfold Qz at h;split at h
 .split at h
  .split at h
   .cases h
   .split at h
    .split at h
     .rename_i hm;split at h
      .obtain ⟨hc,h⟩:=Zq h;simp only [Ad] at hc;simp only [Ag,Aa] at h;obtain ⟨_,h1,_,rfl⟩:=h;obtain ⟨o1,o2,o3,o4⟩:=Yn h1;exact ⟨(Yq.write st none (Af hc.1.2) hm).trans (Yq.put (st.withMem _) _ o2 (o3.trans rfl) fun x=>(o4 x).2),o1⟩
      .cases h
     .cases h
    .cases h
  .cases h
 .cases h
theorem w0h {floor:Nat} {st:St} {sz len:Nat} {x:BA} {b:Option Nat} {get:Nat->List BA} {o:Bool} (ht:Hz st.mem sz x=some (b,len,get,o)) (hf:Q5 floor b=true):Yq floor st (st.withMem (GL st.mem b)):=by
 cases b with
 | none=>exact Yq.refl _ _
 | some b=>
  have hm: ∃ab,Zs st.mem b=some ab:=by
   unfold Hz at ht
   grind
  obtain ⟨ab,hm⟩:=hm;exact Yq.write st none (Af hf) hm
theorem Tw {cx:BK} {st st':St} {ts:List TypeId} {xs:List BA} {v:BA} (h:Uq P cx st ts xs=some (v,st')):Yq cx.floor st st'/\st'.env=st.env:=by
 unfold Uq at h;split at h
 .split at h
  .split at h
   .split at h
    .rename_i ht _;obtain ⟨hc,h⟩:=Zq h;simp only [Ad] at hc;simp only [Ag,Aa] at h;obtain ⟨_,h1,_,rfl⟩:=h;obtain ⟨o1,o2,o3,o4⟩:=Yn h1;exact ⟨(w0h ht hc.2).trans (Yq.put (st.withMem _) _ o2 (o3.trans rfl) fun x=>(o4 x).2),o1⟩
    .cases h
   .cases h
  .cases h
 .cases h
theorem Tu {cx:BK} {st st':St} {ts:List TypeId} {xs:List BA} {v:BA} (h:Jp P cx st ts xs=some (v,st')):Yq cx.floor st st'/\st'.env=st.env:=by
 unfold Jp at h;rcases Wv h with ⟨_,h⟩ | ⟨_,h⟩
 .cases h
 rcases Wv h with ⟨_,h⟩ | ⟨_,h⟩;all_goals grind [Tw,Tv,Sg]
theorem V1 {floor:Nat} {st st':St} {ts:List TypeId} {xs:List BA} {v:BA} (h:GD P floor st ts xs=some (v,st')):Yq floor st st'/\st'.env=st.env:=by
 unfold GD at h;split at h
 .split at h
  .split at h
   .split at h
    .obtain ⟨_,h⟩:=Zq h;split at h
     .grind [Yq.refl]
     .obtain ⟨_,h⟩:=Zq h
      grind [Yq.refl]
     .dsimp only at h;split at h
      .rename_i blk hm;obtain ⟨hc,h⟩:=Zq h;simp only [Ad] at hc;simp only [Ab,Aa] at h;obtain ⟨_,rfl⟩:=h;exact ⟨Yq.write st _ (Af hc.2.1) hm,rfl⟩
      .cases h
     .cases h
    .cases h
   .cases h
  .cases h
 .cases h
theorem XN {floor:Nat} {st st':St} {ts:List TypeId} {xs:List BA} {v:BA} (h:Fh P floor st ts xs=some (v,st')):Yq floor st st'/\st'.env=st.env:=by
 unfold Fh at h;split at h
 .split at h
  .split at h
   .split at h
    .grind [Yq.refl]
    .rcases Wv h with ⟨_,h⟩ | ⟨_,h⟩
     .grind [Yq.refl]
     .obtain ⟨hc,h⟩:=Zq h;simp only [Ad] at hc;split at h
      .rename_i blk hm;obtain ⟨_,h⟩:=Zq h;simp only [Ab,Aa] at h;obtain ⟨_,rfl⟩:=h;exact ⟨Yq.write st _ (Af hc.2) hm,rfl⟩
      .cases h
    .cases h
   .cases h
  .cases h
 .cases h
theorem Pv {S:BC} {R:BI} (hR:Ct R) {lift:Bool} {f:FuncId} {args:List BA} {cx:BK} {st st':St} {v:BA} (h:II P S R lift f args cx st=some (v,st')):
  (Yq cx.floor st st'/\(lift=true-> ∀b,b<st.next->ET S f args≠some b->Zs st'.mem b=Zs st.mem b))/\st'.env=st.env:=by
 unfold II at h;split at h
 .rcases Wv h with ⟨_,h⟩ | ⟨_,h⟩
  .split at h
   .obtain ⟨_,h⟩:=Zq h;simp only [Ag,Aa] at h
    grind [Yn,Yq.same]
   .cases h
  .split at h;split at h
   .obtain ⟨_,h⟩:=Zq h;simp only [Ag,Aa] at h
    grind [Yn,Yq.same]
   .cases h
 .split at h
  .rename_i v0 b blk o _;split at h
   .rename_i ab hm;obtain ⟨hc,h⟩:=Zq h;simp only [Ad,AO] at hc;simp only [Ag,Aa] at h;obtain ⟨st1,h1,_,rfl⟩:=h;obtain ⟨e1,e2,e3,e4⟩:=Yn h1;exact ⟨⟨(Yq.write st (some blk) (Af hc.2) hm).trans (Yq.same e2 e3 fun x=>(e4 x).2),fun hl=>by grind⟩,e1⟩
   .cases h
  .cases h
 .rename_i ty0 F hF;split at h
  .rename_i b sz n sz' r;split at h
   .rename_i cells ty A hm;obtain ⟨hc,h⟩:=Zq h;simp only [Ad] at hc;split at h
    .rename_i n' g o _;simp only [Ag,Aa] at h;obtain ⟨st1,h1,_,rfl⟩:=h;obtain ⟨env,mem,next,orc,ob⟩:=st;simp only at h1 hm ⊢;obtain ⟨e1,e2,e3,e4⟩:=Yn h1;simp only at e1 e2 e3 e4;have hle:=Af hc.2.2.1;refine ⟨⟨⟨?_,fun hb k hk=> ?_,fun hf k hk=> ?_,fun x=>(e4 x).2⟩,fun _ k hk hn=> ?_⟩,e1⟩;all_goals grind [Zx,ET]
    .cases h
   .cases h
  .cases h
 .split at h
  .split at h
   .split at h
    .rename_i st2 hr;split at h
     .simp only [Ab,Aa] at h;obtain ⟨_,rfl⟩:=h;have q:=hR _ _ _ _ hr;refine ⟨?_,rfl⟩;cases lift with
      | false=>exact ⟨⟨q.nxt,q.bd,q.low,q.ob⟩,fun x=>by cases x⟩
      | true=>refine ⟨⟨q.nxt,q.bd,fun hf b hb=>q.low (Ak _) b (AJ hb hf),q.ob⟩,fun _ b hb _=>q.low (Ak _) b hb⟩
     .cases h
    .cases h
   .cases h
  .cases h
theorem XQ {cx:BK} {st st':St} {ts:List TypeId} {b sz off len:Nat} {x v:BA} (h:Ea P cx st ts b sz off len x=some (v,st')):Yq cx.floor st st'/\st'.env=st.env:=by
 unfold Ea at h;split at h
 .split at h
  .split at h
   .rename_i hm;split at h
    .obtain ⟨hc,h⟩:=Zq h;simp only [Ad] at hc;simp only [Ag,Aa] at h;obtain ⟨_,h1,_,rfl⟩:=h;obtain ⟨o1,o2,o3,o4⟩:=Yn h1;exact ⟨(Yq.write st _ (Af hc.1) hm).trans (Yq.same o2 o3 fun x=>(o4 x).2),o1⟩
    .cases h
   .cases h
  .cases h
 .cases h
theorem XP {cx:BK} {st st':St} {ts:List TypeId} {xs:List BA} {v:BA} (h:IB P cx st ts xs=some (v,st')):Yq cx.floor st st'/\st'.env=st.env:=by
 unfold IB at h
 grind [XQ,V1]
theorem Oo {S:BC} {R:BI} (hR:Ct R) {lift:Bool} {op:Op} {cx:BK} {st st':St} {v:BA} (h:Xg P S R lift op cx st=some (v,st')):Yq cx.floor st st'/\st'.env=st.env:=by
 unfold Xg at h;split at h
 .split at h
  .rename_i hl;obtain ⟨l1,l2,l3,l4⟩:=Kt hl;simp only [Ag,Aa] at h
   grind [Yn,Yq.same]
  .cases h
 .simp only [Ag,Aa] at h;obtain ⟨_,_,_,rfl⟩:=h;exact ⟨Yq.new st _ _,rfl⟩
 .obtain ⟨_,h⟩:=Zq h;simp only [Ab,Aa] at h;obtain ⟨_,rfl⟩:=h;exact ⟨Yq.new st _ _,rfl⟩
 .exact S2 _ h
 .split at h
  .simp only [Ag,Aa] at h
   grind [Sm]
  .simp only [Ag,Aa] at h
   grind [XS]
 .rcases Wv h with ⟨_,h⟩ | ⟨_,h⟩
  .rcases Wv h with ⟨_,h⟩ | ⟨_,h⟩
   .have q:=PT (st:=st.dropO) cx.floor h;exact ⟨⟨q.1.nxt,q.1.bd,q.1.low,q.1.ob⟩,q.2⟩
   .have q:=S3 (st:=st.dropO) h;exact ⟨⟨q.1.nxt,q.1.bd,q.1.low,q.1.ob⟩,q.2⟩
  .exact PT _ h
 all_goals grind [Tu,XP,XN,Pv]
def CR (x:Nat) (st st':St):Prop:=Zs st'.mem x=Zs st.mem x
theorem Vj {x b:Nat} (st:St) (o:Option BE) (hn:b≠x):CR x st (st.withMem (Yi st.mem b o)):=Zx _ _ fun e=>hn e.symm
theorem Hy {x:Nat} (st:St) (cs:List BA) (ty:TypeId) (hx:x<st.next):CR x st (BY st cs ty):=Zx _ _ (AU hx)
theorem Sn {x:Nat} {floor:Nat} {st st':St} {t:TypeId} {a v:BA} (h:Fj P floor st t a v=some st') (hn: ∀off,a≠ .ptr x off):CR x st st':=by
 unfold Fj at h;split at h
 .rename_i b off _ _;obtain ⟨_,h⟩:=Zq h;split at h
  .obtain ⟨_,h⟩:=Zq h
   grind [Vj]
  .cases h
 .cases h
theorem UE {x:Nat} {cx:BK} {st st':St} {t:TypeId} {a v:BA} (h:Ft P cx st t a v=some st') (hn: ∀sz r fo,a≠ .epa x sz r fo):CR x st st':=by
 unfold Ft at h;split at h
 .rename_i b sz r fo _ _;obtain ⟨_,h⟩:=Zq h;split at h
  .split at h
   .split at h
    .rename_i rw1 st1 dO;obtain ⟨_,s2,_,_⟩:=MO dO;obtain ⟨_,o2,_,_⟩:=Yn h;unfold CR;rw [o2,<-s2];exact Vj st1 _ fun e=>hn sz r fo (by rw [e])
    .cases h
   .cases h
  .cases h
 .cases h
theorem S8 {x:Nat} {st st':St} {t:TypeId} {len:Nat} {ps:List (Nat×BA)} {v:BA} {un:Bool} (hx:x<st.next) (h:Vv P un st t len ps=some (v,st')):CR x st st':=by
 unfold Vv at h;split at h
 .split at h
  .obtain ⟨_,h⟩:=Zq h
   grind [Hy]
  .cases h
 .cases h
theorem PY {x:Nat} {st st':St} {t:TypeId} {l c v:BA} (hx:x<st.next) (h:Wa P st t l c=some (v,st')):CR x st st':=by
 unfold Wa at h;split at h
 .split at h
  .obtain ⟨_,h⟩:=Zq h
   grind [Hy]
  .cases h
 .cases h
theorem Tx {x floor:Nat} {st st':St} {ts:List TypeId} {xs:List BA} {v:BA} (hx:x<st.next) (h:Ui P floor st ts xs=some (v,st')) (hn: ∀off len cap r,xs≠ .sl x off len cap::r):CR x st st':=by
 unfold Ui at h;split at h
 .split at h
  .split at h
   .split at h
    .obtain ⟨_,h⟩:=Zq h;split at h
     .rcases Wv h with ⟨_,h⟩ | ⟨_,h⟩
      .simp only [Ab,Aa] at h;obtain ⟨_,rfl⟩:=h;rfl
      .obtain ⟨_,h⟩:=Zq h
       grind [Hy]
     .have hb:=fun e=>hn _ _ _ _ (Al (fun b=>BA.sl b _ _ _::_) e);split at h
      .rename_i blk hm;split at h
       .obtain ⟨_,h⟩:=Zq h;split at h
        .rcases Wv h with ⟨_,h⟩ | ⟨_,h⟩
         .obtain ⟨hc,h⟩:=Zq h
          grind [Vj]
         grind [Hy]
        .obtain ⟨hc,h⟩:=Zq h;rcases Wv h with ⟨_,h⟩ | ⟨_,h⟩
         .grind [Vj]
         .obtain ⟨_,h⟩:=Zq h;simp only [Ab,Aa] at h;obtain ⟨_,rfl⟩:=h;exact (Hy (st.withMem (Yi st.mem _ none)) _ _ hx).trans (Vj st none hb)
       .cases h
      .cases h
     .cases h
    .cases h
   .cases h
  .cases h
 .cases h
theorem Sb {x:Nat} {cx:BK} {st st':St} {t:TypeId} {l c v:BA} (hx:x<st.next) (h:Vw P cx st t l c=some (v,st')):CR x st st':=by
 unfold Vw at h;split at h
 .split at h
  .obtain ⟨_,h⟩:=Zq h;simp only [Ag,Aa] at h;obtain ⟨_,h1,_,rfl⟩:=h;obtain ⟨_,o2,_,_⟩:=Yn h1
   grind [CR,Zx]
  .cases h
 .cases h
theorem UO {x:Nat} {cx:BK} {st st':St} {ts:List TypeId} {xs:List BA} {v:BA} (hx:x<st.next) (h:Qz P cx st ts xs=some (v,st')) (hn: ∀sz off len cap r,xs≠ .sla x sz off len cap::r):CR x st st':=by
 unfold Qz at h;split at h
 .have hb:=fun e=>hn _ _ _ _ _ (Al (fun b=>BA.sla b _ _ _ _::_) e);split at h
  .split at h
   .cases h
   .split at h
    .split at h
     .split at h
      .obtain ⟨hc,h⟩:=Zq h;simp only [Ag,Aa] at h;obtain ⟨_,h1,_,rfl⟩:=h;obtain ⟨_,o2,_,_⟩:=Yn h1
       grind [CR,Zx]
      .cases h
     .cases h
    .cases h
  .cases h
 .cases h
theorem S1 {m:BH} {sz len b:Nat} {x:BA} {get:Nat->List BA} {o:Bool} (ht:Hz m sz x=some (some b,len,get,o)):(∃off len cap,x=.sl b off len cap)\/ ∃sz off len cap,x=.sla b sz off len cap:=by
 unfold Hz at ht
 grind
theorem UP {x:Nat} {cx:BK} {st st':St} {ts:List TypeId} {xs:List BA} {v:BA} (hx:x<st.next) (h:Uq P cx st ts xs=some (v,st')) (hn: ∀off len cap r,xs≠ .sl x off len cap::r) (hn2: ∀sz off len cap r,xs≠ .sla x sz off len cap::r):CR x st st':=by
 unfold Uq at h;split at h
 .split at h
  .split at h
   .split at h
    .rename_i b len get o1 n g o2 ht _;obtain ⟨hc,h⟩:=Zq h;simp only [Ag,Aa] at h;obtain ⟨_,h1,_,rfl⟩:=h;obtain ⟨_,o2,_,_⟩:=Yn h1;unfold CR;rw [o2];show Zs (Yi (GL st.mem b) st.next _) x=_;rw [Zx _ _ (AU hx)];cases b with
     | none=>rfl
     | some b=>
      refine Zx _ _ fun e=> ?_
      grind [S1]
    .cases h
   .cases h
  .cases h
 .cases h
theorem UN {x:Nat} {cx:BK} {st st':St} {ts:List TypeId} {xs:List BA} {v:BA} (hx:x<st.next) (h:Jp P cx st ts xs=some (v,st')) (hn: ∀off len cap r,xs≠ .sl x off len cap::r) (hn2: ∀sz off len cap r,xs≠ .sla x sz off len cap::r):CR x st st':=by
 unfold Jp at h;rcases Wv h with ⟨_,h⟩ | ⟨_,h⟩
 .cases h
 rcases Wv h with ⟨_,h⟩ | ⟨_,h⟩;all_goals grind [UP,UO,Tx]
theorem XR {x floor:Nat} {st st':St} {ts:List TypeId} {xs:List BA} {v:BA} (h:GD P floor st ts xs=some (v,st')) (hn: ∀off len cap r,xs≠ .sl x off len cap::r):CR x st st':=by
 unfold GD at h;split at h
 .split at h
  .split at h
   .split at h
    .obtain ⟨_,h⟩:=Zq h;split at h
     .simp only [Ab,Aa] at h;obtain ⟨_,rfl⟩:=h;rfl
     .obtain ⟨_,h⟩:=Zq h;simp only [Ab,Aa] at h;obtain ⟨_,rfl⟩:=h;rfl
     .have hb:=fun e=>hn _ _ _ _ (Al (fun b=>BA.sl b _ _ _::_) e);dsimp only at h;split at h
      .obtain ⟨hc,h⟩:=Zq h
       grind [Vj]
      .cases h
     .cases h
    .cases h
   .cases h
  .cases h
 .cases h
theorem Sj {x:Nat} {cx:BK} {st st':St} {ts:List TypeId} {b sz off len:Nat} {y v:BA} (h:Ea P cx st ts b sz off len y=some (v,st')) (hn:b≠x):CR x st st':=by
 unfold Ea at h;split at h
 .split at h
  .split at h
   .split at h
    .obtain ⟨_,h⟩:=Zq h;simp only [Ag,Aa] at h;obtain ⟨_,h1,_,rfl⟩:=h;obtain ⟨_,o2,_,_⟩:=Yn h1;show Zs _ x=_;rw [o2];exact Vj st _ hn
    .cases h
   .cases h
  .cases h
 .cases h
theorem Si {x:Nat} {cx:BK} {st st':St} {ts:List TypeId} {xs:List BA} {v:BA} (h:IB P cx st ts xs=some (v,st')) (hn: ∀off len cap r,xs≠ .sl x off len cap::r) (hn2: ∀sz off len cap r,xs≠ .sla x sz off len cap::r) (hn3: ∀sz off len r,xs≠ .slv x sz off len::r):CR x st st':=by
 unfold IB at h
 grind [Sj,XR]
theorem Sh {x floor:Nat} {st st':St} {ts:List TypeId} {xs:List BA} {v:BA} (h:Fh P floor st ts xs=some (v,st')) (hn: ∀off len cap r,xs≠ .sl x off len cap::r):CR x st st':=by
 unfold Fh at h;split at h
 .split at h
  .split at h
   .split at h
    .simp only [Ab,Aa] at h;obtain ⟨_,rfl⟩:=h;rfl
    .have hb:=fun e=>hn _ _ _ _ (Al (fun b=>BA.sl b _ _ _::_) e);rcases Wv h with ⟨_,h⟩ | ⟨_,h⟩
     .simp only [Ab,Aa] at h;obtain ⟨_,rfl⟩:=h;rfl
     .obtain ⟨hc,h⟩:=Zq h;split at h
      .obtain ⟨_,h⟩:=Zq h
       grind [Vj]
      .cases h
    .cases h
   .cases h
  .cases h
 .cases h
theorem UA {S:BC} {R:BI} {lift:Bool} {op:Op} {cx:BK} {st st':St} {v:BA} {x:Nat} (hk:Yk op=.chain) (hx:x<st.next) (hn:CW op st.eval≠some x) (h:Xg P S R lift op cx st=some (v,st')):CR x st st':=by
 cases op with
 | store t a y=>
  simp only [Xg] at h;split at h
  .rename_i b sz r fo hb;simp only [Ag,Aa] at h
   grind [UE,CW]
  .simp only [Ag,Aa] at h
   grind [Sn,CW]
 | box t y=>
  unfold Xg at h;simp only at h;obtain ⟨_,h⟩:=Zq h
  grind [Hy]
 | buildSlice t n ps=>exact S8 hx h
 | makeSlice t l c=>
  unfold Xg at h;simp only at h;rcases Wv h with ⟨_,h⟩ | ⟨_,h⟩
  .rcases Wv h with ⟨_,h⟩ | ⟨_,h⟩
   .exact (PY (st:=st.dropO) hx h)
   .exact (Sb (st:=st.dropO) hx h)
  .exact PY hx h
 | call c=>
  obtain ⟨callee,args,argTypes⟩:=c;cases callee with
  | builtin b=>
   cases b <;> first
    | (simp [Yk] at hk;done)
    | exact UN hx h (fun off len cap r e=>hn (by simp only [CW,e])) (fun sz off len cap r e=>hn (by simp only [CW,e]))
    | exact Si h (fun off len cap r e=>hn (by simp only [CW,e])) (fun sz off len cap r e=>hn (by simp only [CW,e])) (fun sz off len r e=>hn (by simp only [CW,e]))
    | exact Sh h fun off len cap r e=>hn (by simp only [CW,e])
  | value f=>simp [Yk] at hk
  | invoke r m=>simp [Yk] at hk
 | _=>simp [Yk] at hk
theorem Wd : ∀(d:Nat) (a:BA) (u:Value),pf d a=true->Zb ρ a u->Zb ρ.bare a u
 | 0,_,_,h,_=>by simp [pf] at h
 | d+1,a,u,h,hr=>by
  cases hr with
  | undef=>simp [pf] at h
  | bool=>exact .bool _
  | int=>exact .int _ _
  | str=>exact .str _
  | mapr=>simp [pf] at h
  | ifbt=>exact .ifbt
  | ifbf=>exact .ifbf _ _
  | agg cs vs hl hh=>simp only [pf,Az] at h;exact .agg cs vs hl fun i h1 h2=>Wd d _ _ (h _ (AR h1)) (hh i h1 h2)
  | tup cs vs hl hh=>simp only [pf,Az] at h;exact .tup cs vs hl fun i h1 h2=>Wd d _ _ (h _ (AR h1)) (hh i h1 h2)
  | ptr=>simp [pf] at h
  | nilp=>exact .nilp
  | sl=>simp [pf] at h
  | sla=>simp [pf] at h
  | slan=>simp [pf] at h
  | slv=>simp [pf] at h
  | slve=>simp [pf] at h
  | slvn=>simp [pf] at h
  | nnl=>simp [pf] at h
  | epa=>simp [pf] at h
  | nils=>exact .nils
  | fn f cs vs hl hh=>obtain rfl:cs=[]:=List.isEmpty_iff.1 h;exact .fn f [] vs hl fun i h1=>absurd h1 (AC _)
  | nilf=>exact .nilf
  | fnb=>simp [pf] at h
  | yld=>simp [pf] at h
  | ifc=>simp [pf] at h
  | nili=>exact .nili
  | dat len get blk base sz cap val cJ hsz hv hh=>exact .dat len get blk base sz cap val cJ hsz hv hh
  | datn get=>exact .datn get
  | datz get a c=>exact .datz get a c
  | dptr cs blk base val hv hh=>exact .dptr cs blk base val hv hh
def IF (P:Program) (f:FuncId) (F:List BA->Option (BA×Bool)):Prop:=
 ∀args v,F args=some (v,true)-> ∀(H:CX) (vals:Array Value) (w:World),Xo (Zb (Km H)) args vals.toList->(∀k o,H k=some o->w.heap[k]? =some o)->Glob H->
  Calls P f vals w fun e w'=> ∃H' u,(∀k o,H k=some o->H' k=some o)/\(∀k o,H' k=some o->w'.heap[k]? =some o)/\(∀k,k<w.heap.size->H' k=H k)/\e=.returned u/\Zb (Km H') v u/\RowKit.Below w.heap.size w w'
def Db (P:Program) (f:FuncId) (F:List BA->BH->Option (BA×Nat×BE×Bool)):Prop:=
 ∀args mem v b blk,F args mem=some (v,b,blk,true)->(Zs mem b).isSome =true-> ∀(ρ:BD) (next floor:Nat) (vals:Array Value) (w:World),floor<=b->Xo (Zb ρ) args vals.toList->BF ρ mem next w->
  Calls P f vals w fun e w'=> ∃u,e=.returned u/\Zb ρ v u/\BF ρ (Yi mem b (some blk)) next w'/\Ev ρ ρ floor mem next (Yi mem b (some blk)) next w w'
def Ej (H:CX) (l:Option BS):BD:=⟨fun b=>if b=0 then l else none,H,fun _=>none⟩
def DI (ty:TypeId) (sz n:Nat) (get:Nat->List BA):BH:=Yi .leaf 0 (some ⟨rows n get,ty,some ⟨sz,n,.flat get⟩⟩)
def Ff (P:Program) (f:FuncId) (ty:TypeId) (F:Nat->(Nat->List BA)->List BA->Option (Nat×(Nat->List BA)×Bool)):Prop:=
 ∀ (sz n:Nat) (get:Nat->List BA) (r:List BA) (n':Nat) (g:Nat->List BA),F n get r=some (n',g,true)->FT sz n get=true->FT sz n' g=true->1<=sz-> ∀(H:CX) (l:Option BS) (vals:Array Value) (w:World),
  Xo (Zb (Ej H l)) (.sla 0 sz 0 n (.un sz)::r) vals.toList->BF (Ej H l) (DI ty sz n get) 1 w->(∀k o,w.heap[k]? =some o->(∃l0,l=some l0/\l0.blk=k)\/H k=some o)->
  Calls P f vals w fun e w'=> ∃ρ' u m' nx b,e=.returned u/\Zb ρ' (.sla b sz 0 n' (.un sz)) u/\Zs m' b=some ⟨rows n' g,ty,some ⟨sz,n',.flat g⟩⟩/\BF ρ' m' nx w'/\
   (∀k o,H k=some o->ρ'.fz k=some o)/\w.heap.size<=w'.heap.size/\w'.os=w.os/\w'.tape=w.tape/\w'.output=w.output
def Hb (P:Program) (f:FuncId):GT->Prop
 | .val F=>IF P f F
 | .eff F=>Db P f F
 | .gro ty F=>Ff P f ty F
def Zu (P:Program) (S:BC):Prop:=
 ∀f F,S f=some F->(∃fn,P.funcs[f]? =some fn/\fn.body.isSome=true)/\Hb P f F
def NK (P:Program):Prop:=(P.funcs[G1]?).isSome =true-> ∀(b:Nat) (p v:Value) (w:World) (l:List UInt8),l.length<=9223372036854775807->w.heap[b]? =some (.cells #[p,v] CF (0,0))->
 ((v=.slice none 0 0/\l=[])\/ ∃g o c cur,v=.slice (some ⟨g,o,none⟩) l.length c/\l.length<=c/\w.heap[g]? =some (.cells cur H3 (0,0))/\(l≠ []->o+l.length<=cur.size)/\ ∀j x,l[j]? =some x->cur[o+j]? =some (.int .u8 x.toNat))->
 Calls P G1 #[.pointer (some ⟨b,0,none⟩)] w fun e w'=>e=.returned (.string ⟨l.toArray⟩)/\w.heap.size<=w'.heap.size/\
  (∀k o,w.heap[k]? =some o->(∀g o n c,v=.slice (some ⟨g,o,none⟩) n c->g≠k)->w'.heap[k]? =some o)/\w'.os=w.os/\w'.tape=w.tape/\w'.output=w.output
def CY (P:Program):Prop:=(∀(f:FuncId) (fn:Func),P.funcs[f]? =some fn->fn.body.isSome=true->(fn.name == "runtime.NumGoroutine")=false)/\NK P
def D8 (P:Program) (R:BI):Prop:=
 ∀ cx todo st st',cx.floor<=st.next->R cx todo st=some st'->st'.ob=true-> ∀(ρ:BD) (a:Act) (w:World) (b:Frame) (cs:List Frame),a.defers=[]->Xm ρ st.env cx.n a.tmps->BF ρ st.mem st.next w->
  ∃ρ' a' todo' w',Steps P (lone (b.at a todo) cs w) (lone {b.at a' todo' with mode:=.returning} cs w')/\a'.defers=[]/\Xm ρ' st'.env cx.n a'.tmps/\BF ρ' st'.mem st'.next w'/\
   Ev ρ ρ' cx.floor st.mem st.next st'.mem st'.next w w'
theorem Lk : ∀(args:List BA) (i:Nat) (t:T BA) (k:Nat),T.get .undef (DC args i t) k=if i<=k/\k<i+args.length then args.getD (k - i) .undef else T.get .undef t k
 | [],i,t,k=>by rw [At (by grind)];rfl
 | a::r,i,t,k=>by
  simp only [DC];rw [Lk r (i+1) _ k,T.get_set];by_cases h1:k=i
  .subst h1;rw [At (by omega),AB rfl,AB (by simp)];simp
  .by_cases h2:i+1<=k/\k<i+1+r.length
   .rw [AB h2,AB (by simp;omega)];have:k - i=(k - (i+1))+1:=(by omega);rw [this];simp
   .rw [At h2,At h1,At (by simp;omega)]
def Ik (tmps:Array Value):ResultVar->Sem Value
 | .tmp t=>pure (tmps.getD t undef)
 | .cell a t=>do loadVar t (<-asAddr (tmps.getD a undef))
theorem YL (fn:Func) (tmps:Array Value):results fn tmps=(do
  let vs<-fn.results.mapM (Ik tmps)
  pure (if h:vs.size=1 then vs[0] else .tuple vs)):=by
 unfold results;have:(fun r:ResultVar=>(match r with | .tmp t=>pure (tmps.getD t undef) | .cell a t=>do loadVar t (<-asAddr (tmps.getD a undef)):Sem Value))=Ik tmps:=by
  funext r
  cases r <;> rfl
 rw [<-this];rfl
theorem US {st:St} {w:World} {tmps:Array Value} {n:Nat} (cF:Xm ρ st.env n tmps) (cB:BF ρ st.mem st.next w) {r:ResultVar} {v:BA} (h:LB P st r=some v):
  ∃u,Zb ρ v u/\(Ik tmps r).run P w=.ok u w:=by
 have get: ∀t,Zb ρ (st.tmp t) (tmps.getD t undef):=fun t=>cF.get t;cases r with
 | tmp t=>simp only [LB,Ab] at h;subst h;exact ⟨_,get t,rfl⟩
 | cell a t=>
  simp only [LB] at h;obtain ⟨z,hz,hr⟩:=Oq cB h (get a);refine ⟨z,hz,?_⟩;have ha:=get a;unfold Ik;simp only;generalize tmps.getD a undef=u at ha hr ⊢;unfold GE at h;split at h
  .rename_i e;rw [e] at ha;cases ha
   grind [Instr.loadAt,Instr.sureAddr,asAddr]
  .rename_i e;rw [e] at ha;cases ha
   grind [Instr.loadAt,Instr.sureAddr,asAddr]
  .cases h
theorem PU {st:St} {w:World} {tmps:Array Value} {n:Nat} (cF:Xm ρ st.env n tmps) (cB:BF ρ st.mem st.next w): ∀{rs:List ResultVar} {vs:List BA},aResults P st rs=some vs->
  ∃us,Xo (Zb ρ) vs us/\(rs.mapM (Ik tmps)).run P w=.ok us w
 | [],vs,h=>by simp only [aResults,Ab] at h;subst h;exact ⟨[],.nil,by simp⟩
 | r::rs,vs,h=>by
  unfold aResults at h;split at h
  .rename_i v vs' h1 h2;obtain rfl:=Ac h;obtain ⟨u,hu,hr⟩:=US cF cB h1;obtain ⟨us,hus,hrs⟩:=PU cF cB h2;refine ⟨u::us,.cons hu hus,?_⟩;rw [List.mapM_cons,Sem.run_bind,hr];simp only [Result.andThen_ok,Sem.run_bind,hrs,Sem.run_pure]
  .cases h
theorem Kg {fn:Func} {st:St} {w:World} {tmps:Array Value} {n:Nat} (cF:Xm ρ st.env n tmps) (cB:BF ρ st.mem st.next w) {vs:List BA} (h:aResults P st fn.results.toList=some vs):
  ∃u,Zb ρ (Ud vs) u/\(results fn tmps).run P w=.ok u w:=by
 obtain ⟨us,hus,hr⟩:=PU cF cB h;refine ⟨if h:us.toArray.size=1 then us.toArray[0] else .tuple us.toArray,?_,?_⟩
 .cases hus with
  | nil=>exact .tup [] _ rfl fun i h1 _=>by simp at h1
  | cons h1 hs=>cases hs with
   | nil=>simpa [Ud] using h1
   | cons h2 hs=>have dC:=Xo.cons h1 (Xo.cons h2 hs);have hl:=dC.length;simp only [Ud];rw [dif_neg (by simp)];exact .tup _ _ (by grind) fun i h1 h2=>by simpa using dC.get i h1 (by grind)
 .rw [YL,Sem.run_bind,Array.mapM_eq_mapM_toList,Sem.run_map,hr];rfl
theorem Ll {args:List BA} {vals:Array Value} (h:Xo (Zb ρ) args vals.toList) (ntmps:Nat):
  Xm ρ (DC args 0 .leaf) (Nat.max ntmps args.length) (vals++Array.replicate (ntmps - vals.size) undef):=by
 have hl:args.length=vals.size:=by simpa using h.length
 have hmax:Nat.max ntmps args.length=vals.size+(ntmps - vals.size):=by
  grind
 refine ⟨by grind,fun i=> ?_,fun i hi=> ?_⟩
 .rw [Lk];by_cases hi:i<args.length
  .rw [AB (by omega)];have h2:i<vals.toList.length:=by grind
   have:=h.get i hi h2;have e1:args.getD (i - 0) .undef =args[i]:=by simp [hi]
   have e2:(vals++Array.replicate (ntmps - vals.size) undef).getD i undef=vals.toList[i]:=by have h3:i<vals.size:=(by grind);simp [Array.getElem?_append,h3]
   grind
  .rw [At (by omega)];exact .undef _
 .have hle:args.length<=Nat.max ntmps args.length:=Nat.le_max_right _ _;rw [Lk,At (by omega)];rfl
theorem Ug {f:FuncId} {fn:Func} (hN:CY P) (hf:P.funcs[f]? =some fn) (hb:fn.body.isSome=true) (args:Array Value) (w:World):(callFunc f args).run P w=.ok (.enter f args) w:=by
 have h1: ¬fn.name= "runtime.NumGoroutine" :=by simpa using hN.1 f fn hf hb
 have h2: ¬fn.body=none:=by grind
 simp [callFunc,hf,h1,h2]
theorem Tr {mem:BH} {next:Nat} {w:World} (h:BF ρ mem next w) {a a':BA} {o:Bool} (hv:Nd P mem a=(a',o)) (ho:o=true) {u:Value} (hr:Zb ρ a u) (hp:pf 3 a'=true):Zb (Km fun k=>w.heap[k]?) a' u:=by
 subst ho;have hle:ρ.bare.le (Km fun k=>w.heap[k]?):=⟨fun _ _ e=>(by cases e),fun k o e=>h.old k o e,fun _ _ e=>(by cases e)⟩
 unfold Nd at hv;split at hv
 .rename_i b sz off len cap;split at hv
  .rename_i blk hm;split at hv
   .rename_i A hA;simp only [Aa,Ad,Au] at hv;obtain ⟨rfl,h1,h2,h3⟩:=hv;obtain rfl:=Ae h1;have h3:= @AA _ (Classical.propDecidable _) h3;cases hr with
    | slan=>exact .datn _
    | sla _ _ _ _ _ l c hρ cJ cC=>
     obtain ⟨dF,dT,cN⟩:=(h.blk b l blk hρ hm).arr A hA;obtain ⟨cur,el,hh,_⟩:=((h.blk b l blk hρ hm).rows hA).cells;refine .dat len _ l.blk (l.base+off*A.sz) A.sz c (fun i j=>(w.cell? ⟨l.blk,l.base+(off+i)*A.sz+j,none⟩).getD undef) cC (fun i hi=>cN _ (by omega)) (fun i j hi hj=> ?_) (fun i j hi hj=> ?_)
     .obtain ⟨v,e1,e2⟩:=(h.rowAt hρ hm hA (r:=off+i) (by omega)) j hj;simp only [e1,Option.getD_some];exact (Wd 6 _ _ (Az.1 (h3 (off+i)) _ (AR hj)) e2).mono hle
     .obtain ⟨v,e1,e2⟩:=(h.rowAt hρ hm hA (r:=off+i) (by omega)) j (by grind);simp only [e1,Option.getD_some];refine ⟨cur,el,(0,0),hh,?_⟩
      grind [World.cell?]
   grind [pf]
  grind [pf]
 .rename_i b off len cap;split at hv
  .rename_i blk hm;split at hv
   .rename_i inf _;simp only [Aa,Ad,AO] at hv;obtain ⟨rfl,h0,h1,h3⟩:=hv;have h1:=Af h1;generalize inf.size=sz at h1 hp ⊢;cases hr with
    | sl _ _ _ _ l c hρ cJ cC=>
     obtain ⟨cs,el,hh,_,hc⟩:=((h.blk b l blk hρ hm).at h0).cells;have hlt: ∀i,i<len->off+i*sz+sz<=blk.cells.length:=fun i hi=>by have:=Av sz (show i+1<=len by omega);rw [Nat.succ_mul] at this;omega
     have hl: ∀i,i<len->((blk.cells.drop (off+i*sz)).take sz).length =sz:=fun i hi=>by have:=hlt i hi;rw [List.length_take,Bw];omega
     refine .dat len _ l.blk (l.base+off) sz c (fun i j=>(cs[l.base+(off+i*sz+j)]?).getD undef) cC hl (fun i j hi hj=> ?_) (fun i j hi hj=> ?_)
     .have h4:=hlt i hi;have hj':=hj;rw [hl i hi] at hj';obtain ⟨v,e1,e2⟩:=hc (off+i*sz+j) (by omega);simp only [e1,Option.getD_some];have e3:((blk.cells.drop (off+i*sz)).take sz)[j]=blk.cells[off+i*sz+j]'(by omega):=by rw [List.getElem_take,List.getElem_drop]
      rw [e3];exact (Wd 6 _ _ (Az.1 h3 _ (AR _)) e2).mono hle
     .have h4:=hlt i hi;obtain ⟨v,e1,e2⟩:=hc (off+i*sz+j) (by omega);simp only [e1,Option.getD_some];refine ⟨cs,el,(0,0),hh,?_⟩;rw [<-e1]
      congr 1
      omega
   grind [pf]
  grind [pf]
 .simp only [Aa] at hv;obtain ⟨rfl,_⟩:=hv;exact (Wd 3 _ _ hp hr).mono hle
theorem Tq {mem:BH} {next:Nat} {w:World} (h:BF ρ mem next w) {az:List BA} {us:List Value} (hr:Xo (Zb ρ) az us): ∀{az':List BA} {o:Bool},Ix P mem az=(az',o)->o=true->az'.all (pf 3)=true->Xo (Zb (Km fun k=>w.heap[k]?)) az' us:=by
 induction hr with
 | nil=>intro az' o hv _ _;simp only [Ix,Aa] at hv;obtain ⟨rfl,_⟩:=hv;exact .nil
 | @cons a b l m h1 _ ih=>intro az' o hv ho hp;unfold Ix at hv;split at hv;rename_i a1 o1 as1 q1 e1 e2;simp only [Aa] at hv;obtain ⟨rfl,rfl⟩:=hv;simp only [Ad] at ho;simp only [List.all_cons,Ad] at hp;exact .cons (Tr h e1 ho.1 h1 hp.1) (ih e2 ho.2 hp.2)
theorem YX {σ:BD} {v:BA} {u:Value} (hs:scal v=true) (h:Zb σ v u):Zb ρ v u:=by
 cases h with
 | bool=>exact .bool _
 | int=>exact .int _ _
 | str=>exact .str _
 | ifbt=>exact .ifbt
 | ifbf=>exact .ifbf _ _
 | tup cs vs hl hh=>
  simp only [scal,Az] at hs;refine .tup cs vs hl fun i h1 h2=> ?_;have k1:=hs _ (AR h1);have k2:=hh i h1 h2;generalize cs[i]=a at k1 k2;generalize vs[i]=b at k2;cases k2 with
  | undef=>exact .undef _
  | bool=>exact .bool _
  | int=>exact .int _ _
  | str=>exact .str _
  | ifbt=>exact .ifbt
  | ifbf=>exact .ifbf _ _
  | _=>simp at k1
 | _=>simp [scal] at hs
theorem U8 {sz n:Nat} {get:Nat->List BA} (h:FT sz n get=true): ∀i,i<n->(get i).length =sz/\(get i).all pl=true:= @AA _ (Classical.propDecidable _) h
theorem RJ {sz n:Nat} {get:Nat->List BA} (h:FT sz n get=true): ∀v∈rows n get,pl v=true:=fun v hv=>by
 obtain ⟨i,hi,hv⟩:=List.mem_flatMap.1 hv
 grind [U8]
theorem Gk {v:BA} {u:Value} {ρ':BD} (h:pl v=true) (hr:Zb ρ v u):Zb ρ' v u:=by
 cases hr <;> first | exact .bool _ | exact .int _ _ | (cases h;done)
theorem Xu.pl {w:World} {ab:BE} {l:BS} (h:Xu ρ w ab l) (hp: ∀v∈ab.cells,pl v=true) (ρ':BD):Xu ρ' w ab l:=by
 cases h with
 | plain h=>
  obtain ⟨h0,h1,h2,h3,cs,el,h4,h5,h6⟩:=h;refine .plain ⟨h0,h1,h2,h3,cs,el,h4,h5,fun i hi=> ?_⟩
  grind [Gk]
 | obj o r ty h n z=>subst h;have:=hp _ (List.mem_cons_self ..);cases this
theorem WL {f:FuncId} {F:Nat->(Nat->List BA)->List BA->Option (Nat×(Nat->List BA)×Bool)} {ty:TypeId} (hF:Ff P f ty F) {floor next:Nat} {mem:BH} {b sz n:Nat} {r:List BA} {cells:List BA} {A:CJ} (hm:Zs mem b=some ⟨cells,ty,some A⟩)
  (hA:A.sz=sz/\A.n=n) (hr:r.all (pf 3)=true) (hfl:floor<=b) (hsz:1<=sz) {n':Nat} {g:Nat->List BA} (hv:F n A.get r=some (n',g,true)) (hp:FT sz n A.get=true) (hp':FT sz n' g=true)
  {vals:Array Value} (cD:Xo (Zb ρ) (.sla b sz 0 n (.un sz)::r) vals.toList) {w:World} (cB:BF ρ mem next w):
  Calls P f vals w fun e w'=> ∃ρ' u,e=.returned u/\Zb ρ' (.sla next sz 0 n' (.un sz)) u/\BF ρ' (Yi (Yi mem b none) next (some ⟨rows n' g,ty,some ⟨sz,n',.flat g⟩⟩)) (next+1) w'/\
   Ev ρ ρ' floor mem next (Yi (Yi mem b none) next (some ⟨rows n' g,ty,some ⟨sz,n',.flat g⟩⟩)) (next+1) w w':=by
 obtain ⟨rfl,rfl⟩:=hA;have hbn:b<next:=by
  rcases AS b next with h | h
  .exact h
  .rw [cB.bd b h] at hm;cases hm
 let H:CX:=fun k=>if∃l,ρ b=some l/\l.blk=k then none else w.heap[k]?
 have hH: ∀k,(¬ ∃l,ρ b=some l/\l.blk=k)->H k=w.heap[k]? :=fun k hk=>At hk;have hHs: ∀k o,H k=some o->w.heap[k]? =some o/\ ¬ ∃l,ρ b=some l/\l.blk=k:=fun k o e=>by
  by_cases hk: ∃l,ρ b=some l/\l.blk=k;all_goals grind
 have hfz: ∀k o,ρ.fz k=some o->H k=some o:=fun k o e=>by
  rw [hH k fun ⟨l,h1,h2⟩=>by
   have:=cB.sep b l h1 (by rw [hm];rfl)
   grind]
  exact cB.old k o e
 have hbare:ρ.bare.le (Ej H (ρ b)):=⟨fun _ _ e=>(by cases e),hfz,fun _ _ e=>(by cases e)⟩
 have key: ∀(n0:Nat) (u:Value),Zb ρ (.sla b A.sz 0 n0 (.un A.sz)) u->Zb (Ej H (ρ b)) (.sla 0 A.sz 0 n0 (.un A.sz)) u:=fun n0 u h1=>by
  cases h1 with
  | sla _ _ _ _ _ l c h hc cC=>exact .sla 0 _ 0 _ _ l c (by show (if (0:Nat)=0 then ρ b else none)=_;grind) hc cC
  | slan _ _ _ _=>exact .slan _ _ _ _
 have hargs1:Xo (Zb (Ej H (ρ b))) (.sla 0 A.sz 0 A.n (.un A.sz)::r) vals.toList:=by
  generalize vals.toList=us at cD;cases cD with
  | cons h1 h2=>
   refine .cons ?_ ?_
   .grind
   .exact Xo.of h2.length fun i g1 g2=>(Wd 3 _ _ (Az.1 hr _ (AR g1)) (h2.get i g1 g2)).mono hbare
 have hget0: ∀l,Ej H (ρ b) 0=some l↔ρ b=some l:=fun l=>Iff.rfl;have cR: ∀c l,Ej H (ρ b) c=some l->c=0/\ρ b=some l:=fun c l e=>by
  have e:(if c=0 then ρ b else none)=some l:=e
  grind
 have hm1:Zs (DI ty A.sz A.n A.get) 0=some ⟨rows A.n A.get,ty,some ⟨A.sz,A.n,.flat A.get⟩⟩:=Zd _ _ _;have cZ:BF (Ej H (ρ b)) (DI ty A.sz A.n A.get) 1 w:=by
  refine ⟨fun c l e=>by grind,fun c c' l l' e e' _ _ _=>by grind,fun c l ab e hc=> ?_,fun k o e=>(hHs k o e).1,fun c l e _=> ?_,fun c l e=>cB.real b l (cR c l e).2,fun c hc=> ?_,⟨fun j l e=>(by cases e),cB.ldom.2.mono hfz⟩⟩
  .obtain ⟨rfl,e2⟩:=cR c l e;rw [hm1] at hc;obtain rfl:=Ac hc;have q:=(cB.blk b l _ e2 hm).rows rfl;obtain ⟨q0,q1,q2,q3,cs,el,q4,q5,q6⟩:=q;obtain ⟨a1,a2,a3⟩:=q3 A rfl;simp only at a1;subst a1;have q':Xu ρ w ⟨rows A.n A.get,ty,some ⟨A.sz,A.n,.flat A.get⟩⟩ l:=.plain ⟨q0,q1,q2,fun B e=>by
    obtain rfl:=Ac e;exact ⟨rfl,a2,a3⟩,cs,el,q4,q5,q6⟩
   exact q'.pl (RJ hp) _
  .obtain ⟨_,e2⟩:=cR c l e;exact AB ⟨l,e2,rfl⟩
  .show Zs (Yi .leaf 0 _) c=none;rw [Zx _ _ (by omega)];rfl
 have dC: ∀k o,w.heap[k]? =some o->(∃l0,ρ b=some l0/\l0.blk=k)\/H k=some o:=fun k o e=>by
  grind
 refine (hF A.sz A.n A.get r n' g hv hp hp' hsz H (ρ b) vals w hargs1 cZ dC).mono fun e w' ⟨ρ1,u,m',nx,b1,he,hu,hmb,hr1,hfz1,dX,hos,htape,hout⟩=> ?_;have hgone: ∀k,(¬ ∃l,ρ b=some l/\l.blk=k)-> ∀o,w.heap[k]? =some o->w'.heap[k]? =some o/\ρ1.fz k=some o:=fun k hk o e=>by have h2:=hfz1 k o ((hH k hk).trans e);exact ⟨hr1.old k o h2,h2⟩
 let ρ':BD:=⟨fun c=>if c=next then ρ1 b1 else ρ c,ρ.fz,ρ.lp⟩
 have cI: ∀c l,ρ' c=some l->(c=next/\ρ1 b1=some l)\/(c≠next/\ρ c=some l):=fun c l e=>by
  grind
 have hnew:ρ' next=ρ1 b1:=AB rfl
 have holdc: ∀c,c<next->ρ' c=ρ c:=fun c hc=>At (by omega)
 have hle:ρ.le ρ':=⟨fun c l e=>by rw [holdc c (cB.dom c l e)];exact e,fun _ _ e=>e,fun _ _ e=>e⟩
 have hm': ∀c,c≠next->Zs (Yi (Yi mem b none) next (some ⟨rows n' g,ty,some ⟨A.sz,n',.flat g⟩⟩)) c=if c=b then none else Zs mem c:=fun c hc=>by
  grind [Zx,Zd]
 have hmn:Zs (Yi (Yi mem b none) next (some ⟨rows n' g,ty,some ⟨A.sz,n',.flat g⟩⟩)) next=some ⟨rows n' g,ty,some ⟨A.sz,n',.flat g⟩⟩:=Zd _ _ _
 have hother: ∀c l,ρ c=some l->(Zs mem c).isSome =true->c≠b-> ¬ ∃l',ρ b=some l'/\l'.blk=l.blk:=fun c l e hs hcb ⟨l',e',hb⟩=>hcb (cB.inj c b l l' e e' hb.symm hs (by rw [hm];rfl));have dY: ∀c l,ρ c=some l-> ∃o,w.heap[l.blk]? =some o:=fun c l e=>⟨_,A8 (cB.real c l e)⟩
 have hsepn: ∀l,ρ1 b1=some l->ρ1.fz l.blk=none:=fun l e=>hr1.sep b1 l e (by rw [hmb];rfl);have cQ:Zb ρ' (.sla next A.sz 0 n' (.un A.sz)) u:=by
  cases hu with
  | sla _ _ _ _ _ l c h hc cC=>exact .sla next _ 0 _ _ l c (hnew.trans h) hc cC
  | slan _ _ _ _=>exact .slan _ _ _ _
 refine ⟨ρ',u,he,cQ,?_,?_⟩
 .refine ⟨fun c l e=> ?_,fun c c' l l' e e' hbl hs hs'=> ?_,fun c l ab e hc=> ?_,fun k o e=> ?_,fun c l e hs=> ?_,fun c l e=> ?_,fun c hc=> ?_,⟨fun j l e=>AW (cB.ldom.1 j l e),cB.ldom.2⟩⟩
  .rcases cI c l e with ⟨rfl,_⟩ | ⟨_,e⟩
   .omega
   .have:=cB.dom c l e;omega
  .have clash: ∀c l l',c≠next->ρ c=some l->ρ1 b1=some l'->l.blk=l'.blk->(Zs (Yi (Yi mem b none) next (some ⟨rows n' g,ty,some ⟨A.sz,n',.flat g⟩⟩)) c).isSome =true->False:=fun c l l' hc e e' hbl hs=>by
    grind
   rcases cI c l e with ⟨h1,h2⟩ | ⟨h1,h2⟩ <;> rcases cI c' l' e' with ⟨h1',h2'⟩ | ⟨h1',h2'⟩
   .rw [h1,h1']
   .grind
   .grind
   .rw [hm' c h1] at hs;rw [hm' c' h1'] at hs';by_cases hcb:c=b
    .grind
    .by_cases hcb':c'=b
     .grind
     .rw [At hcb] at hs;rw [At hcb'] at hs';exact cB.inj c c' l l' h2 h2' hbl hs hs'
  .rcases cI c l e with ⟨h1,h2⟩ | ⟨h1,h2⟩
   .subst h1;rw [hmn] at hc;obtain rfl:=Ac hc;have q:=(hr1.blk b1 l _ h2 hmb).pl (RJ hp') ρ';exact .plain ⟨(q.rows rfl).typ,q.n,q.tot,q.arr,(q.rows rfl).cells⟩
   .rw [hm' c h1] at hc;by_cases hcb:c=b
    .grind
    .rw [At hcb] at hc;obtain ⟨o,ho⟩:=dY c l h2;refine (cB.blk c l ab h2 hc).world hle ?_;rw [(hgone l.blk (hother c l h2 (by rw [hc];rfl) hcb) o ho).1,ho]
  .have h1:=hfz k o e;obtain ⟨h2,h3⟩:=hHs k o h1;exact (hgone k h3 o h2).1
  .rcases cI c l e with ⟨h1,h2⟩ | ⟨h1,h2⟩
   .cases hq:ρ.fz l.blk with
    | none=>rfl
    | some o=>
     grind
   .rw [hm' c h1] at hs;by_cases hcb:c=b
    .grind
    .rw [At hcb] at hs;exact cB.sep c l h2 hs
  .rcases cI c l e with ⟨h1,h2⟩ | ⟨h1,h2⟩
   .exact hr1.real b1 l h2
   grind
  .rw [hm' c (by omega),At (by omega)];exact cB.bd c (by omega)
 .refine ⟨hle,fun c hc=>holdc c hc,by omega,fun c hc hn cs ty2 hq=> ?_,fun k o hk hn=> ?_,fun c l hc e=> ?_,dX,hos,htape,hout,fun k _=>rfl⟩
  .grind
  .exact (hgone k (fun ⟨l,h1,h2⟩=>hn b l h1 hfl h2) o hk).1
  .rcases cI c l e with ⟨h1,h2⟩ | ⟨h1,h2⟩
   .rcases AS l.blk w.heap.size with h | h
    .rcases dC l.blk _ (A8 h) with ⟨l0,h3,h4⟩ | h3;all_goals grind
    grind
   grind
theorem On {S:BC} {R:BI} (hS:Zu P S) (hR:D8 P R) {lift:Bool} {f:FuncId} {args:List BA} {cx:BK} {st st':St} {v:BA} (hcx:cx.floor<=st.next) (h:II P S R lift f args cx st=some (v,st')) (hob:st'.ob=true)
  {vals:Array Value} (cD:Xo (Zb ρ) args vals.toList) {w:World} (cB:BF ρ st.mem st.next w):
  (∃fn,P.funcs[f]? =some fn/\fn.body.isSome=true)/\Calls P f vals w fun e w'=> ∃ρ' u,e=.returned u/\CK ρ cx.floor st st' v w ρ' u w':=by
 unfold II at h;split at h
 .rename_i F hF;rcases Wv h with ⟨hca,h⟩ | ⟨_,h⟩
  .split at h
   .rename_i v' b hFa;obtain ⟨hc2,h⟩:=Zq h;have hc1:=Az.1 hca;simp only [Ag,Aa] at h;obtain ⟨st1,h1,rfl,rfl⟩:=h;obtain ⟨_,e2,e3,e4⟩:=Yn h1;obtain ⟨rfl,_⟩:=e4 hob;obtain ⟨hfn,cO⟩:=hS f _ hF;refine ⟨hfn,?_⟩;have hargs0:Xo (Zb ρ.bare) args vals.toList:=Xo.of cD.length fun i g1 g2=>Wd 3 _ _ (hc1 _ (AR g1)) (cD.get i g1 g2);refine (cO args v' hFa ρ.fz vals w hargs0 cB.old cB.ldom.2).mono fun e w' ⟨H',u,hle,hold,cM,he,hv,hb⟩=>⟨⟨ρ.f,H',ρ.lp⟩,u,he,Zb.mono (ρ:=Km H') (ρ':=⟨ρ.f,H',ρ.lp⟩) ⟨fun _ _ e=>(by cases e),fun _ _ e=>e,fun _ _ e=>(by cases e)⟩ hv,?_,?_⟩
    .rw [e2,e3];have hle':ρ.le ⟨ρ.f,H',ρ.lp⟩:=⟨fun _ _ e=>e,hle,fun _ _ e=>e⟩
     exact ⟨cB.dom,cB.inj,fun b l ab q1 q2=>(cB.blk b l ab q1 q2).world hle' (hb.block _ (cB.real b l q1)),hold,fun b l q hs=>(cM _ (cB.real b l q)).trans (cB.sep b l q hs),fun b l q=>AJ (cB.real b l q) hb.size,cB.bd,cB.ldom.1,cB.ldom.2.mono hle⟩
    .rw [e2,e3];exact ⟨⟨fun _ _ e=>e,hle,fun _ _ e=>e⟩,fun _ _=>rfl,Ak _,fun _ _ _ _ _ h=>h,fun k o hk _=>by rw [hb.block k (As.1 hk).1];exact hk,
      fun b l hb' hl=>by grind,hb.size,hb.os,hb.tape,hb.output,cM⟩
   .cases h
  .split at h;rename_i args' o hview;split at h
   .rename_i v' b hFa;obtain ⟨hc,h⟩:=Zq h;simp only [Ad] at hc;simp only [Ag,Aa] at h;obtain ⟨st1,h1,rfl,rfl⟩:=h;obtain ⟨_,e2,e3,e4⟩:=Yn h1;obtain ⟨hob1,_⟩:=e4 hob;simp only [Ad] at hob1;obtain ⟨ho,rfl⟩:=hob1;obtain ⟨hfn,cO⟩:=hS f _ hF;refine ⟨hfn,?_⟩;have hargs0:=Tq cB cD hview ho hc.1;refine (cO args' v' hFa (fun k=>w.heap[k]?) vals w hargs0 (fun _ _ e=>e) (cB.ldom.2.mono cB.old)).mono fun e w' ⟨H',u,hle,hold,cM,he,hv,hb⟩=>⟨ρ,u,he,YX hc.2 hv,?_,?_⟩
    .rw [e2,e3];exact ⟨cB.dom,cB.inj,fun b l ab q1 q2=>(cB.blk b l ab q1 q2).world (BD.le_refl _) (hb.block _ (cB.real b l q1)),fun k o q=>by rw [hb.block k (As.1 (cB.old k o q)).1];exact cB.old k o q,cB.sep,fun b l q=>AJ (cB.real b l q) hb.size,cB.bd,cB.ldom⟩
    .rw [e2,e3];exact ⟨BD.le_refl _,fun _ _=>rfl,Ak _,fun _ _ _ _ _ h=>h,fun k o hk _=>by grind,
      fun b l hb' hl=>by grind,hb.size,hb.os,hb.tape,hb.output,fun _ _=>rfl⟩
   .cases h
 .rename_i F hF;split at h
  .rename_i v0 b blk o hFa;split at h
   .rename_i ab hm;obtain ⟨hc,h⟩:=Zq h;simp only [Ad] at hc;simp only [Ag,Aa] at h;obtain ⟨st1,h1,rfl,rfl⟩:=h;obtain ⟨_,e2,e3,e4⟩:=Yn h1;obtain ⟨rfl,_⟩:=e4 hob;obtain ⟨hfn,cO⟩:=hS f _ hF;refine ⟨hfn,?_⟩;refine (cO args st.mem v0 b blk hFa (by rw [hm];rfl) ρ st.next cx.floor vals w (Af hc.2) cD cB).mono fun e w' ⟨u,he,hv,hr,hev⟩=>⟨ρ,u,he,hv,?_,?_⟩
    .rw [e2,e3];exact hr
    .rw [e2,e3];exact hev
   .cases h
  .cases h
 .rename_i ty0 F hF;split at h
  .rename_i b sz n sz' r;split at h
   .rename_i cells ty A hm;obtain ⟨hc,h⟩:=Zq h;simp only [Ad] at hc;obtain ⟨⟨c0,c1,c2⟩,c4,c5,c6⟩:=hc;have c0:=Ae c0;split at h
    .rename_i n' g o hFa;simp only [Ag,Aa] at h;obtain ⟨st1,h1,rfl,rfl⟩:=h;obtain ⟨env,mem,next,orc,ob⟩:=st;simp only at h1 hm hcx cB ⊢;obtain ⟨_,e2,e3,e4⟩:=Yn h1;obtain ⟨hob1,_⟩:=e4 hob;simp only [Ad] at hob1;obtain ⟨rfl,c3,hp,hp'⟩:=hob1;obtain ⟨hfn,cO⟩:=hS f _ hF;rw [<-c0] at cO;obtain rfl:=Ae c1;refine ⟨hfn,?_⟩;refine (WL cO hm ⟨Ae c2,Ae c3⟩ c4 (Af c5) (Af c6) hFa hp hp' cD cB).mono fun e w' ⟨ρ',u,he,hv,hr,hev⟩=>⟨ρ',u,he,hv,?_,?_⟩
     all_goals grind
    .cases h
   .cases h
  .cases h
 .split at h
  .rename_i fn hf;split at h
   .rename_i body hb;split at h
    .rename_i st2 hr;split at h
     .rename_i vs hvs;simp only [Ab,Aa] at h;obtain ⟨rfl,rfl⟩:=h;refine ⟨⟨fn,hf,by rw [hb];rfl⟩,?_⟩;intro cs
      let b:Frame:={(default:Frame) with fn:=f,kind:=.normal}
      have dZ:Frame.enter P f vals .normal =b.at {tmps:=vals++Array.replicate (fn.ntmps - vals.size) undef,defers:=[]} [.code body]:=by simp [Frame.enter,Frame.at,hf,hb,b]
      obtain ⟨ρ',a',todo',w',cT,hd,cF,cV,hev⟩:=hR _ _ _ _ (by
       cases lift with
       | false=>exact hcx
       | true=>exact Ak _) hr hob ρ {tmps:=vals++Array.replicate (fn.ntmps - vals.size) undef,defers:=[]} w b cs rfl (Ll cD fn.ntmps) cB
      obtain ⟨u,hu,hres⟩:=Kg cF cV hvs;rw [<-dZ] at cT;refine ⟨.returned u,w',_,⟨ρ',u,rfl,hu,cV,?_⟩,cT,rfl,rfl,hd,rfl,fn,hf,hres⟩;refine hev.lower ?_
      grind
     .cases h
    .cases h
   .cases h
  .cases h
theorem UR {S:BC} {R:BI} (hN:CY P) (hS:Zu P S) (hR:D8 P R) {lift:Bool} {o:Oper} {cx:BK} {st st':St} {v:BA} (hcx:cx.floor<=st.next)
  (h:Xg P S R lift o.op cx st=some (v,st')) (hob:st'.ob=true) {ev:Operand->BA} (hev: ∀x,x∈o.op.operands->ev x=st.eval x) {a:Act} (hr:Vb ρ ev a.eval o.op) {w:World} (cB:BF ρ st.mem st.next w):
  GR P o a w (CK ρ cx.floor st st' v w):=by
 obtain ⟨dst,op,type,pos,after,guard⟩:=o;simp only at h hr hev
 replace hr:Vb ρ st.eval a.eval op:=fun x hx=>by rw [<-hev x hx];exact hr x hx
 clear hev;unfold Xg at h;split at h
 .rename_i t x;split at h
  .rename_i v' b st0 hv;obtain ⟨l1,l2,l3,l4⟩:=Kt hv;simp only [Ag,Aa] at h;obtain ⟨st1,h1,rfl,rfl⟩:=h;obtain ⟨e1,e2,e3,e4⟩:=Yn h1;obtain ⟨rfl,hob0⟩:=e4 hob;obtain ⟨z,hz,cE⟩:=PH cB (l4 hob0).1 (hr x (by simp [Op.operands]));exact .inl ⟨ρ,z,w,by simp [execOp,cE],hz,by grind,by rw [e2,e3,l2,l3];exact Ev.refl _ _ _ _ _ cB.dom⟩
  .cases h
 .rename_i t;simp only [Ag,Aa] at h;obtain ⟨z,hz,rfl,rfl⟩:=h;obtain ⟨_,zv,_,_,hzr,hzv⟩:=Xw (ρ:=ρ) hz;refine .inl ⟨_,.pointer (some ⟨w.heap.size,0,none⟩),_,?_,Hv cB cx.floor z t zv.cells t (by rw [hzr.1];grind) hzr.2 _ _ fun ρ' hρ'=>.ptr _ 0 _ hρ'⟩;simp_all [execOp,Instr.alloc,newVar,newRow]
 .rename_i t x;obtain ⟨hbx,h⟩:=Zq h;simp only [Ab,Aa] at h;obtain ⟨rfl,rfl⟩:=h;have hc:=(hr x (by simp [Op.operands])).cells hbx;refine .inl ⟨_,.pointer (some ⟨w.heap.size,0,none⟩),_,?_,Hv cB cx.floor _ t (a.eval x).cells t (by rw [hc.1];grind) hc.2 _ _ fun ρ' hρ'=>.ptr _ 0 _ hρ'⟩;simp [execOp,Instr.box,newVar,newRow]
 .rename_i t len parts;obtain ⟨ρ',u,w',cE,hp,_,_⟩:=Sd cB cx.floor h (Ka parts.toList fun p hp=>hr p.2 (by grind [Op.operands]));refine .inl ⟨ρ',u,w',?_,hp⟩;have:(parts.map fun (i,x)=>(i,a.eval x))=(parts.toList.map fun p=>(p.1,a.eval p.2)).toArray :=by
   grind
  simp [execOp,this,cE]
 .rename_i t x y;split at h
  .rename_i b sz r fo hb;simp only [Ag,Aa] at h;obtain ⟨st1,h,rfl,rfl⟩:=h;have hx:=hr x (by simp [Op.operands]);rw [hb] at hx;obtain ⟨w',cE,hp⟩:=UT cB h hob hx (hr y (by simp [Op.operands]));exact .inr (.inl ⟨ρ,w',by simp [execOp,cE],hp⟩)
  .simp only [Ag,Aa] at h;obtain ⟨st1,h,rfl,rfl⟩:=h;obtain ⟨w',cE,hp,_,_⟩:=UF cB h (hr x (by simp [Op.operands])) (hr y (by simp [Op.operands]));exact .inr (.inl ⟨ρ,w',by simp [execOp,cE],hp⟩)
 .rename_i t l c;rcases Wv h with ⟨_,h⟩ | ⟨_,h⟩
  .rcases Wv h with ⟨_,h⟩ | ⟨_,h⟩
   .obtain ⟨ρ',u,w',cE,hp,_,_⟩:=Uy (st:=st.dropO) cB cx.floor h (hr l (by simp [Op.operands])) (hr c (by simp [Op.operands]));exact .inl ⟨ρ',u,w',by simp [execOp,cE],hp.val,hp.rel,hp.ev⟩
   .obtain ⟨ρ',u,w',cE,hp⟩:=Se (st:=st.dropO) cB h hob (hr l (by simp [Op.operands])) (hr c (by simp [Op.operands]));exact .inl ⟨ρ',u,w',by simp [execOp,cE],hp.val,hp.rel,hp.ev⟩
  .obtain ⟨ρ',u,w',cE,hp,_,_⟩:=Uy cB cx.floor h (hr l (by simp [Op.operands])) (hr c (by simp [Op.operands]));exact .inl ⟨ρ',u,w',by simp [execOp,cE],hp⟩
 .rename_i args argTypes;have cD:Xo (Zb ρ) (args.toList.map st.eval) (args.map a.eval).toList :=by rw [A0];exact Xo.maps _ _ _ fun x hx=>hr x (by grind [Op.operands,Call.operands])
  unfold Jp at h;rcases Wv h with ⟨_,h⟩ | ⟨hty,h⟩
  .cases h
  rw [Bool.not_eq_false'] at hty;rcases Wv h with ⟨_,h⟩ | ⟨_,h⟩
  .obtain ⟨ρ',u,w',cE,hp⟩:=SS (type:=type) cB h hob cD hty;exact .inl ⟨ρ',u,w',by simp_all [execOp,resolve,invoke,builtin],hp⟩
  split at h
  .rename_i hxs;obtain ⟨ρ',u,w',cE,hp,_⟩:=PS (type:=type) cB h hob (hxs ▸ cD) (by rw [hxs] at hty;exact hty);exact .inl ⟨ρ',u,w',by simp_all [execOp,resolve,invoke,builtin],hp⟩
  .obtain ⟨ρ',u,w',cE,hp,_,_⟩:=Uk (type:=type) cB cx.floor h cD hty;exact .inl ⟨ρ',u,w',by simp_all [execOp,resolve,invoke,builtin],hp⟩
 .rename_i args argTypes;have cD:Xo (Zb ρ) (args.toList.map st.eval) (args.map a.eval).toList :=by rw [A0];exact Xo.maps _ _ _ fun x hx=>hr x (by grind [Op.operands,Call.operands])
  unfold IB at h;split at h
  .rename_i b sz off len cap x xs hxs;obtain ⟨ρ',u,w',cE,hp⟩:=PG (type:=type) (d:=.sla b sz off len cap) cB h hob (hxs ▸ cD) fun u hu=>by
    cases hu with
    | sla _ _ _ _ _ l c hρ _ cC=>grind
    | slan=>grind
   exact .inl ⟨ρ',u,w',by simp_all [execOp,resolve,invoke,builtin],hp⟩
  .rename_i b sz off len x xs hxs;obtain ⟨ρ',u,w',cE,hp⟩:=PG (type:=type) (d:=.slv b sz off len) cB h hob (hxs ▸ cD) fun u hu=>by
    cases hu with
    | slv _ _ _ _ l c hρ cC=>grind
    | slve _ _ _ blk base c=>grind
    | slvn=>grind
   exact .inl ⟨ρ',u,w',by simp_all [execOp,resolve,invoke,builtin],hp⟩
  .obtain ⟨ρ',u,w',cE,hp,_,_⟩:=Sk (type:=type) cB cx.floor h cD;exact .inl ⟨ρ',u,w',by simp_all [execOp,resolve,invoke,builtin],hp⟩
 .rename_i args argTypes;have cD:Xo (Zb ρ) (args.toList.map st.eval) (args.map a.eval).toList :=by rw [A0];exact Xo.maps _ _ _ fun x hx=>hr x (by grind [Op.operands,Call.operands])
  obtain ⟨ρ',u,w',cE,hp,_,_⟩:=Tz (type:=type) cB cx.floor h cD;exact .inl ⟨ρ',u,w',by simp_all [execOp,resolve,invoke,builtin],hp⟩
 .rename_i f args argTypes;split at h
  .rename_i g caps hg;have hf:=hr f (by simp [Op.operands,Call.operands]);rw [hg] at hf;generalize hw:a.eval f=u at hf;cases hf with
   | fn _ _ cvs hl hh=>
    have cD:Xo (Zb ρ) (args.toList.map st.eval++caps) (args.map a.eval++cvs).toList :=by rw [Array.toList_append,A0];exact Xo.append (Xo.maps _ _ _ fun x hx=>hr x (by grind [Op.operands,Call.operands])) (Xo.of (by grind) fun i h1 h2=>by grind)
    obtain ⟨⟨fn,hfn,hb⟩,hc⟩:=On hS hR hcx h hob cD cB;refine .inr (.inr ⟨g,args.map a.eval++cvs,?_,hc⟩);simp_all [Ug,execOp,resolve,Deferred.ofValue,invoke]
  .rename_i g first hg
   have hf:=hr f (by simp [Op.operands,Call.operands]);rw [hg] at hf;generalize hw:a.eval f=u at hf;cases hf with
   | fnb _ _ cvs hl hh=>
    have cD:Xo (Zb ρ) (first++args.toList.map st.eval) (cvs++args.map a.eval).toList :=by rw [Array.toList_append,A0];exact Xo.append (Xo.of (by grind) fun i h1 h2=>by grind) (Xo.maps _ _ _ fun x hx=>hr x (by grind [Op.operands,Call.operands]))
    obtain ⟨⟨fn,hfn,hb⟩,hc⟩:=On hS hR hcx h hob cD cB;refine .inr (.inr ⟨g,cvs++args.map a.eval,?_,hc⟩);simp_all [Ug,execOp,resolve,Deferred.ofValue,invoke]
  .cases h
 .cases h
end
section
variable {P:Program} {ρ:BD}
theorem Xm.congr {env env':T BA} {n:Nat} {tmps:Array Value} (h:Xm ρ env n tmps) (he: ∀t,T.get .undef env' t=T.get .undef env t):Xm ρ env' n tmps:=
 ⟨h.size,fun i=>by rw [he];exact h.get i,fun i hi=>by rw [he];exact h.out i hi⟩
theorem Xm.eval {st:St} {n:Nat} {a:Act} (h:Xm ρ st.env n a.tmps) (x:Operand):Zb ρ (st.eval x) (a.eval x):=by
 cases x with
 | tmp t=>exact h.get t
 | const v=>exact Ql v
 | global g=>exact .undef _
 | func f=>exact .fn f [] #[] rfl fun i h1 _=>by simp at h1
theorem Xm.put {env env':T BA} {n:Nat} {a:Act} (h:Xm ρ env n a.tmps) {dst:Option Tmp} {v:BA} {u:Value} (hv:Zb ρ v u)
  (hp:(dst=none/\env'=env)\/ ∃d,dst=some d/\d<n/\env'=T.set .undef env d v):Xm ρ env' n (a.put dst u).tmps :=by
 rcases hp with ⟨rfl,rfl⟩ | ⟨d,rfl,hd,rfl⟩
 .exact h
 .have hsz:=h.size;refine ⟨by simp [Act.put,hsz],fun i=> ?_,fun i hi=> ?_⟩
  .rw [T.get_set];by_cases hi:i=d
   .simp_all [Act.put]
   .rw [At hi];have:=h.get i
    simpa [Act.put,Array.getElem?_setIfInBounds_ne (Ne.symm hi)] using this
  .rw [T.get_set,At (Nat.ne_of_gt (AJ hd hi))];exact h.out i hi
theorem Act.put_defers' (a:Act) (dst:Option Tmp) (v:Value):(a.put dst v).defers =a.defers:=by cases dst <;> rfl
theorem XT {ops:Array Oper} {o:Oper} {cx:BK} {st st':St} {e:Bool} (h:Dm ops o cx st=some (e,st')):st'.mem=st.mem/\st'.next=st.next/\(st'.ob=true->st.ob=true/\ ∀t,st'.tmp t=st.tmp t):=by
 unfold Dm at h;split at h
 .grind
 .split at h
  .cases h
  .rename_i d hd;split at h
   .rename_i b hb;split at h;rename_i e1 st1 ht;split at h
    .rename_i st2 hp;simp only [Ab,Aa] at h;obtain ⟨_,rfl⟩:=h;obtain ⟨t1,t2,t3,t4⟩:=Qa ht;obtain ⟨p1,p2,p3,p4⟩:=Xp hp;refine ⟨p1.trans t2,p2.trans t3,fun ho=> ?_⟩;rw [p3] at ho;obtain ⟨rfl,ho⟩:=t4 ho;refine ⟨ho,fun t=> ?_⟩;rcases p4 with ⟨e,_⟩ | ⟨d',e,_,he⟩
     .cases e
     .obtain rfl:=Ac e;show T.get .undef st2.env t=T.get .undef st.env t;rw [he,t1,T.get_set];split
      .rename_i h;subst h;exact hb.symm
      .rfl
    .cases h
   all_goals grind
def Wm (ops:Array Oper) (o:Oper):Option Tmp:=o.guard.bind fun g=>(ops[g.1]?).bind (·.dst)
theorem So {ops:Array Oper} {o:Oper} {cx:BK} {st st':St} {e:Bool} (h:Dm ops o cx st=some (e,st')) (ho:st'.ob=true) {tmps:Array Value} (hsz:tmps.size=cx.n)
  (hr: ∀d,Wm ops o=some d->Zb ρ (st.tmp d) (tmps.getD d undef)):Region.wanted o (yielded ops tmps)=e:=by
 unfold Dm at h;unfold Region.wanted;split at h
 .grind
 .rename_i j want hg;rw [hg];simp only;split at h
  .cases h
  .rename_i d hd;have hrd:=hr d (by simp [Wm,hg,hd]);split at h
   .rename_i b hb;split at h;rename_i e1 st1 ht;split at h
    .rename_i st2 hp;simp only [Ab,Aa] at h;obtain ⟨rfl,rfl⟩:=h;obtain ⟨_,_,_,t4⟩:=Qa ht;obtain ⟨_,_,p3,p4⟩:=Xp hp;rw [p3] at ho;obtain ⟨rfl,_⟩:=t4 ho;rcases p4 with ⟨e,_⟩ | ⟨d',e,hlt,_⟩
     .cases e
     .obtain rfl:=Ac e;rw [hb] at hrd;have hlt':d<tmps.size:=(by grind);have cI:tmps.getD d undef=tmps[d]:=(by simp [hlt']);rw [cI] at hrd;have:yielded ops tmps j=some e1:=by unfold yielded;rw [hd];simp only [Option.bind_some,A8 hlt'];generalize tmps[d]=u at hrd;cases hrd;rfl
      grind
    .cases h
   .rename_i hb;simp only [Ab,Aa] at h;obtain ⟨rfl,rfl⟩:=h;rw [hb] at hrd;have:yielded ops tmps j=none:=by
     unfold yielded;rw [hd];simp only [Option.bind_some];by_cases hlt:d<tmps.size
     .have cI:tmps.getD d undef=tmps[d]:=(by simp [hlt]);rw [cI] at hrd;rw [A8 hlt];generalize tmps[d]=u at hrd;cases hrd;rfl
     grind
    grind
   .cases h
theorem V7 {cx:BK} {t:Nat} {kd:IntKind} {n:Int} {st st':St} (ht:st.tmp t=.int kd n) (h:st.conc cx t kd n=some st'):st'.mem=st.mem/\st'.next=st.next/\(st'.ob=true->st.ob=true/\ ∀t,st'.tmp t=st.tmp t):=by
 obtain ⟨env,mem,next,orc,ob⟩:=st;cases orc with
 | nil=>
  obtain rfl:=Ac h
  grind
 | cons o r=>
  unfold St.conc at h;obtain ⟨_,h⟩:=Zq h;obtain rfl:=Ac h;refine ⟨rfl,rfl,fun ho=> ?_⟩;simp only [Ad,Au] at ho;refine ⟨ho.2,fun k=> ?_⟩;show T.get .undef (T.set .undef env t _) k=T.get .undef env k;rw [T.get_set];split
  .rename_i e;subst e;rw [<-ho.1];exact ht.symm
  .rfl
theorem XO {o:Oper} {cx:BK} {st st':St} (h:L5 o cx st=some st'):st'.mem=st.mem/\st'.next=st.next/\(st'.ob=true->st.ob=true/\ ∀t,st'.tmp t=st.tmp t):=by
 grind [L5,V7]
theorem Vg {ops:Array Oper} {o:Oper} {cx:BK} {st st':St} {e:Bool} (h:Uh ops o cx st=some (e,st')): ∃st1,Dm ops o cx st=some (e,st1)/\st'.mem=st1.mem/\st'.next=st1.next/\(st'.ob=true->st1.ob=true/\ ∀t,st'.tmp t=st1.tmp t)/\(Yk o.op=.alloc \/e=false->st'=st1):=by
 unfold Uh at h;split at h
 .rename_i st1 h1;split at h
  .rename_i st2 h2;simp only [Ab,Aa] at h;obtain ⟨rfl,rfl⟩:=h;obtain ⟨c1,c2,c3⟩:=XO h2;refine ⟨st1,h1,c1,c2,c3,fun hk=> ?_⟩;rcases hk with hk | hk
   .unfold L5 at h2;split at h2
    .rename_i ho;rw [ho] at hk;cases hk
    .rename_i ho;rw [ho] at hk;cases hk
    grind
   .cases hk
  .cases h
 grind
theorem Xx {ops:Array Oper} {o:Oper} {cx:BK} {st st':St} {e:Bool} (h:Uh ops o cx st=some (e,st')):st'.mem=st.mem/\st'.next=st.next/\(st'.ob=true->st.ob=true/\ ∀t,st'.tmp t=st.tmp t):=by
 grind [Vg,XT]
theorem Wu {ops:Array Oper} {o:Oper} {cx:BK} {st st':St} {e:Bool} (h:Uh ops o cx st=some (e,st')) (ho:st'.ob=true) {tmps:Array Value} (hsz:tmps.size=cx.n)
  (hg: ∀d,Wm ops o=some d->Zb ρ (st.tmp d) (tmps.getD d undef)):Region.wanted o (yielded ops tmps)=e:=by
 obtain ⟨st1,h1,_,_,c3,_⟩:=Vg h;exact So h1 (c3 ho).1 hsz hg
structure ZC (P:Program) (cx:BK) (o:Oper) (st st':St) (v:BA):Prop where
 ob:st.ob=true
 does: ∀(ρ:BD) (a:Act) (w:World) (ev:Operand->BA),(∀x,x∈o.op.operands->ev x=st.eval x)->Vb ρ ev a.eval o.op->BF ρ st.mem st.next w->GR P o a w (CK ρ cx.floor st st' v w)
 calm:(Yk o.op=.pure \/Yk o.op=.read)-> ∀(ρ:BD) (a:Act) (w:World) (ev:Operand->BA) (mem:BH) (next:Nat),(∀x,x∈o.op.operands->ev x=st.eval x)->Vb ρ ev a.eval o.op->BF ρ mem next w->
  (∀t y b ab,o.op=.load t y->Cc o.op ev=some b->Zs st.mem b=some ab->Zs mem b=some ab)-> ∃u,(execOp a.eval o).run P w=.ok (.value u) w/\Zb ρ v u
theorem WR {op:Op} {ev:Operand->BA} {x:BA×Bool} (h:Vn P op ev=some x):Yk op=.pure :=by
 cases op with
 | call c=>
  obtain ⟨callee,args,argTypes⟩:=c;cases callee with
  | builtin b=>cases b <;> first | rfl | (simp [Vn,J5] at h)
  | value f=>simp [Vn] at h
  | invoke r m=>rfl
 | _=>first | rfl | (simp [Vn] at h;done)
theorem TQ {S:BC} {R:BI} (hN:CY P) (hS:Zu P S) (hRI:Ct R) (hR:D8 P R) {lift:Bool} {o:Oper} {cx:BK} {st st':St} (hcx:cx.floor<=st.next) (h:Fp P S R lift o cx st=some st'):
  ∃v stm,stm.put cx o.dst v=some st'/\stm.env=st.env/\Yq cx.floor st stm/\((Yk o.op=.pure \/Yk o.op=.read)->stm.mem=st.mem/\stm.next=st.next)/\
   (lift=true->Yk o.op=.call -> ∀b,b<st.next->Cf S o.op st.eval≠some b->Zs stm.mem b=Zs st.mem b)/\
   (Yk o.op=.chain -> ∀b,b<st.next->CW o.op st.eval≠some b->Zs stm.mem b=Zs st.mem b)/\
   (Yk o.op=.alloc ->v=.ptr st.next 0/\ ∃t z,o.op=.alloc t/\Ux P t=some z/\stm=BY st z t)/\
   (st'.ob=true->ZC P cx o st stm v):=by
 unfold Fp at h;split at h
 .rename_i v b hp;have hk:=WR hp;split at h
  .rename_i st1 h1;obtain ⟨e1,e2,e3,e4⟩:=Yn h1;refine ⟨v,st1,h,e1,Yq.same e2 e3 fun x=>(e4 x).2,fun _=>⟨e2,e3⟩,(fun _ hc=>by grind),(fun hc=>by grind),(fun hc=>by grind),fun ho=> ?_⟩;obtain ⟨_,_,p3,_⟩:=Xp h;rw [p3] at ho;obtain ⟨rfl,ho1⟩:=e4 ho;refine ⟨ho1,fun ρ a w ev hev hr cB=> ?_,fun _ ρ a w ev mem next hev hr cB hag=> ?_⟩
   .have hr':Vb ρ st.eval a.eval o.op:=fun x hx=>by rw [<-hev x hx];exact hr x hx
    obtain ⟨u,hu,cE⟩:=Ou hp rfl hr';exact .inl ⟨ρ,u,w,cE w,hu,by grind,by rw [e2,e3];exact Ev.refl _ _ _ _ _ cB.dom⟩
   .have hr':Vb ρ st.eval a.eval o.op:=fun x hx=>by rw [<-hev x hx];exact hr x hx
    grind [Ou]
  .cases h
 .split at h
  .rename_i v stm he;obtain ⟨dP,cF⟩:=Oo hRI he;refine ⟨v,stm,h,cF,dP,fun hk=> ?_,fun hl hk b hb hw=> ?_,fun hk b hb hn=>UA hk hb hn he,fun hk=> ?_,fun ho=> ?_⟩
   .obtain ⟨dst,op,type,pos,after,guard⟩:=o;simp only at hk he;cases op with
    | load t x=>
     simp only [Xg] at he;split at he
     .rename_i hl;obtain ⟨l1,l2,l3,l4⟩:=Kt hl;simp only [Ag,Aa] at he
      grind [Yn]
     .cases he
    | call c=>
     obtain ⟨callee,args,argTypes⟩:=c;cases callee with
     | builtin b=>cases b <;> first | (simp [Xg] at he;done) | (simp [Yk] at hk;done)
     | value f=>simp [Yk] at hk
     | invoke r m=>simp [Xg] at he
    | _=>first | (simp [Xg] at he;done) | (simp [Yk] at hk;done)
   .obtain ⟨dst,op,type,pos,after,guard⟩:=o;simp only at hk he;cases op with
    | call c=>
     obtain ⟨callee,args,argTypes⟩:=c;cases callee with
     | builtin b=>cases b <;> first | (simp [Xg] at he;done) | (simp [Yk] at hk;done)
     | value f=>
      grind [Xg,Pv,Cf]
     | invoke r m=>simp [Xg] at he
    | _=>first | (simp [Xg] at he;done) | (simp [Yk] at hk;done)
   .obtain ⟨dst,op,type,pos,after,guard⟩:=o;simp only at hk he;cases op with
    | alloc t=>
     simp only [Xg,Ag,Aa] at he
     grind
    | call c=>
     obtain ⟨callee,args,argTypes⟩:=c;cases callee with
     | builtin b=>cases b <;> first | (simp [Xg] at he;done) | (simp [Yk] at hk;done)
     | value f=>simp [Yk] at hk
     | invoke r m=>simp [Xg] at he
    | _=>first | (simp [Xg] at he;done) | (simp [Yk] at hk;done)
   .obtain ⟨_,_,p3,_⟩:=Xp h;rw [p3] at ho;refine ⟨dP.ob ho,fun ρ a w ev hev hr cB=>UR hN hS hR hcx he ho hev hr cB,fun hk ρ a w ev mem next hev hr cB hag=> ?_⟩;obtain ⟨dst,op,type,pos,after,guard⟩:=o;simp only at hk he hev hr hag;cases op with
    | load t x=>
     simp only [Xg] at he;split at he
     .rename_i v' bb st0 hv;obtain ⟨l1,l2,l3,l4⟩:=Kt hv;simp only [Ag,Aa] at he;obtain ⟨st1,h1,rfl,rfl⟩:=he;obtain ⟨_,_,_,e4⟩:=Yn h1;obtain ⟨rfl,hob0⟩:=e4 ho;have hv:=(l4 hob0).1;have hx:x∈(Op.load t x).operands :=(by simp [Op.operands]);have hl:Fi P mem t (ev x)=some (v',true):=by
       rw [hev x hx];have hag': ∀b ab,Cc (.load t x) st.eval=some b->Zs st.mem b=some ab->Zs mem b=some ab:=fun b ab q1 q2=>hag t x b ab rfl (by grind [Cc]) q2;unfold Fi at hv ⊢;split at hv
       .grind [Cc]
       .rename_i y hy;unfold GE at hv ⊢
        grind [Cc]
      obtain ⟨z,hz,cE⟩:=PH cB hl (hr x hx);simp_all [execOp]
     .cases he
    | call c=>
     obtain ⟨callee,args,argTypes⟩:=c;cases callee with
     | builtin b=>cases b <;> first | (simp [Xg] at he;done) | (simp [Yk] at hk;done)
     | value f=>simp [Yk] at hk
     | invoke r m=>simp [Xg] at he
    | _=>first | (simp [Xg] at he;done) | (simp [Yk] at hk;done)
  .cases h
theorem PE {S:BC} {R:BI} {ops:Array Oper} {cx:BK} {x:Bool×Oper} {l:List (Bool×Oper)} {st:St}:K8 P S R ops cx (x::l) st=(Dt P S R ops cx x st).bind (K8 P S R ops cx l):=by
 grind [K8,Dt]
theorem GR.wp2 {o:Oper} {a:Act} {w:World} {K:BD->Value->World->Prop} {next:Act->World->Prop} {Q:Exit->Act->World->Prop} (h:GR P o a w K)
  (hk: ∀ρ' u w',K ρ' u w'->((execOp a.eval o).run P w=.ok (.value u) w'\/ ∀u w',(execOp a.eval o).run P w≠ .ok (.value u) w')->next (a.put o.dst u) w'):o.wp P a w next Q:=by
 unfold Oper.wp;rcases h with ⟨ρ',u,w',e,k⟩ | ⟨ρ',w',e,k⟩ | ⟨f,args,e,hc⟩
 .have:=hk _ _ _ k (.inl e);rw [e];exact this
 .have:=hk _ _ _ k (.inr fun u w' e2=>by grind);rw [e];exact this
 .rw [e];exact hc.mono fun e' w' ⟨ρ',u,he,k⟩=>by
   grind
theorem Y2 (m:BH) (sz:Nat) (zero:List BA) (ut:TypeDesc) (b o n:Nat) (c:DD):LH m sz zero ut (.sl b o n c)=none:=by cases ut <;> rfl
theorem QX {cx:BK} {st:St} {ts:List TypeId} {s:BA} {b o n:Nat} {c:DD} {r:List BA}:Uq P cx st ts (s::.sl b o n c::r)=none:=by
 unfold Uq
 grind [Y2,unN]
theorem YC {S:BC} {R:BI} {lift:Bool} {o:Oper} {cx:BK} {st st':St} (h:Fp P S R lift o cx st=some st') (hob:st'.ob=true) {b:Nat} (hk:Ca o.op st.eval st.mem=some b) {a:Act} {w:World} (hr:Vb ρ st.eval a.eval o.op) (cB:BF ρ st.mem st.next w):
  ∃u w',(execOp a.eval o).run P w=.ok (.value u) w'/\ ∀ab l,Zs st.mem b=some ab->ρ b=some l->Xu ρ w' ab l:=by
 obtain ⟨dst,op,type,pos,after,guard⟩:=o;simp only at hk hr;unfold Ca at hk;split at hk
 .rename_i args argTypes;have cD:Xo (Zb ρ) (args.toList.map st.eval) (args.map a.eval).toList :=by rw [A0];exact Xo.maps _ _ _ fun x hx=>hr x (by grind [Op.operands,Call.operands])
  have h:(match Jp P cx st argTypes.toList (args.toList.map st.eval) with
   | some (v,st2)=>st2.put cx dst v
   | none=>none)=some st':=h
  split at h
  .rename_i v st2 h2;have ho2:st2.ob=true:=by
    obtain ⟨_,_,p3,_⟩:=Xp h
    grind
   unfold Jp at h2;rcases Wv h2 with ⟨_,h2⟩ | ⟨hty,h2⟩
   .cases h2
   rw [Bool.not_eq_false'] at hty;split at hk
   .rename_i b' sz off len z b2 o2 n2 c2 r he;obtain rfl:=Ac hk;rw [he] at h2 cD;rcases Wv h2 with ⟨_,h2⟩ | ⟨_,h2⟩
    .rw [QX] at h2;cases h2
    .obtain ⟨ρ',u,w',cE,_,hq⟩:=PS (type:=type) cB h2 ho2 cD (by rw [he] at hty;exact hty);exact ⟨u,w',by simp_all [execOp,resolve,invoke,builtin],fun ab l k1 k2=>hq _ _ _ _ _ _ _ _ rfl k1 k2⟩
   .rename_i b' off len z b2 o2 n2 c2 r he;split at hk
    .rename_i blk hm;obtain ⟨hc,hk⟩:=Zq hk;obtain rfl:=Ac hk;simp only [Ad] at hc;rw [he] at h2 cD;rcases Wv h2 with ⟨_,h2⟩ | ⟨_,h2⟩
     .rw [QX] at h2;cases h2
     .obtain ⟨ρ',u,w',cE,_,_,hq⟩:=Uk (type:=type) cB cx.floor h2 cD (by rw [he] at hty;exact hty);refine ⟨u,w',by simp_all [execOp,resolve,invoke,builtin],fun ab l k1 k2=> ?_⟩;rw [hm] at k1;obtain rfl:=Ac k1;exact hq.1 _ _ _ _ _ _ _ _ _ _ _ rfl (Af hc.2) hm (Ae hc.1) k2
    .cases hk
   .cases hk
  .cases h
 .cases hk
structure NI (S:BC) (P:Program) (ops:Array Oper) (cx:BK) (x:Bool×Oper) (st st':St):Prop where
 inv:Yq cx.floor st st'
 stay:(Yk x.2.op=.pure \/Yk x.2.op=.read)->st'.mem=st.mem/\st'.next=st.next
 lift:st'.ob=true->x.1=true->Yk x.2.op=.call -> ∀b,b<st.next->Cf S x.2.op st.eval≠some b->Zs st'.mem b=Zs st.mem b
 foot:st'.ob=true->Yk x.2.op=.chain -> ∀b,b<st.next->CW x.2.op st.eval≠some b->Zs st'.mem b=Zs st.mem b
 alloc:Yk x.2.op=.alloc ->x.2.guard=none-> ∃t z,x.2.op=.alloc t/\Ux P t=some z/\st'.mem=(BY st z t).mem /\st'.next=(BY st z t).next /\ ∀d,x.2.dst=some d->st'.tmp d=.ptr st.next 0
 slot: ∀d,x.2.dst=some d->d<cx.n
 other:st'.ob=true-> ∀t,x.2.dst≠some t->st'.tmp t=st.tmp t
 does:st'.ob=true-> ∀(ρ:BD) (a:Act) (w:World) (ev:Operand->BA),a.tmps.size=cx.n->(∀y,y∈x.2.op.operands->ev y=st.eval y)->(∀d,Wm ops x.2=some d->Zb ρ (st.tmp d) (a.tmps.getD d undef))->Vb ρ ev a.eval x.2.op->BF ρ st.mem st.next w->
  ∀(K:Act->World->Prop) (Q:Exit->Act->World->Prop),(∀ρ' u w',(∀d,x.2.dst=some d->Zb ρ' (st'.tmp d) u)->BF ρ' st'.mem st'.next w'->Ev ρ ρ' cx.floor st.mem st.next st'.mem st'.next w w'->(∀b ab l,Ca x.2.op st.eval st.mem=some b->Zs st.mem b=some ab->ρ b=some l->Xu ρ w' ab l)->K (a.put x.2.dst u) w')->
   if Region.wanted x.2 (yielded ops a.tmps) then x.2.wp P a w K Q else K (a.put x.2.dst undef) w
 calm:st'.ob=true->(Yk x.2.op=.pure \/Yk x.2.op=.read)-> ∀(ρ:BD) (a:Act) (w:World) (ev:Operand->BA) (mem:BH) (next:Nat),a.tmps.size=cx.n->(∀y,y∈x.2.op.operands->ev y=st.eval y)->(∀d,Wm ops x.2=some d->Zb ρ (st.tmp d) (a.tmps.getD d undef))->Vb ρ ev a.eval x.2.op->BF ρ mem next w->
  (∀t y b ab,x.2.op=.load t y->Cc x.2.op ev=some b->Zs st.mem b=some ab->Zs mem b=some ab)-> ∀(K:Act->World->Prop) (Q:Exit->Act->World->Prop),(∀u,(∀d,x.2.dst=some d->Zb ρ (st'.tmp d) u)->K (a.put x.2.dst u) w)->
   if Region.wanted x.2 (yielded ops a.tmps) then x.2.wp P a w K Q else K (a.put x.2.dst undef) w
theorem Od {S:BC} {R:BI} (hN:CY P) (hS:Zu P S) (hRI:Ct R) (hR:D8 P R) {ops:Array Oper} {x:Bool×Oper} {cx:BK} {st st':St} (hcx:cx.floor<=st.next) (h:Dt P S R ops cx x st=some st'):
  NI S P ops cx x st st':=by
 unfold Dt at h;split at h
 .cases h
 .rename_i st1 hw;obtain ⟨w1,w2,w3⟩:=Xx hw;obtain ⟨v,stm,hp,cF,dP,hstay,hlift,hfoot,halloc,hdo⟩:=TQ hN hS hRI hR (by grind) h;obtain ⟨p1,p2,p3,p4⟩:=Xp hp;have dJ: ∀d,x.2.dst=some d->st'.tmp d=v:=fun d hd=>by
   rcases p4 with ⟨e,_⟩ | ⟨d',e,_,he⟩
   .grind
   .rw [hd] at e;obtain rfl:=Ac e;show T.get .undef st'.env d=v;rw [he,T.get_set,AB rfl]
  have hi1:Yq cx.floor st st1:=Yq.same w1 w2 fun ho=>(w3 ho).1;have hi2:Yq cx.floor stm st':=Yq.same p1 p2 fun ho=>by grind
  refine ⟨(hi1.trans dP).trans hi2,fun hk=> ?_,fun ho hl hk b hb hn=> ?_,fun ho hk b hb hn=> ?_,fun hk hg=> ?_,fun d hd=> ?_,fun ho t ht=> ?_,fun ho ρ a w ev hsz hev hgr hr cB K Q hK=> ?_,fun ho hk ρ a w ev mem next hsz hev hgr hr cB hag K Q hK=> ?_⟩
  .grind
  .have ho1:st1.ob=true:=dP.ob (by grind);have cM:st1.eval=st.eval:=by
    funext y
    cases y with
    | tmp t=>exact (w3 ho1).2 t
    | _=>rfl
   grind
  .have ho1:st1.ob=true:=dP.ob (by grind);have cM:st1.eval=st.eval:=by
    funext y
    cases y with
    | tmp t=>exact (w3 ho1).2 t
    | _=>rfl
   grind
  .grind [Vg,Dm]
  .grind
  .have ho1:st1.ob=true:=dP.ob (by grind);rw [<-(w3 ho1).2 t];show T.get .undef st'.env t=T.get .undef st1.env t
   grind [T.get_set]
  .have ho1:st1.ob=true:=dP.ob (by grind);have cM:=(w3 ho1).2;have dM: ∀y,st1.eval y=st.eval y:=fun y=>by cases y <;> first | rfl | exact cM _
   rw [Wu hw ho1 hsz hgr,AB rfl];refine ((hdo ho).does ρ a w ev (fun y hy=>by grind) hr (by grind)).wp2 fun ρ' u w' hpost cE=> ?_;have he:=hpost.ev;rw [w1,w2] at he;refine hK ρ' u w' (fun d hd=>by rw [dJ d hd];exact hpost.val) (by rw [p1,p2];exact hpost.rel) (by grind) fun b ab l k1 k2 k3=> ?_;have hr':Vb ρ st1.eval a.eval x.2.op:=fun y hy=>by rw [dM y,<-hev y hy];exact hr y hy
   have e1:st1.eval=st.eval:=funext dM
   grind [YC]
  .have ho1:st1.ob=true:=dP.ob (by grind);have cM:=(w3 ho1).2;have dM: ∀y,st1.eval y=st.eval y:=fun y=>by cases y <;> first | rfl | exact cM _
   rw [Wu hw ho1 hsz hgr,AB rfl];obtain ⟨u,cE,hu⟩:=(hdo ho).calm hk ρ a w ev mem next (fun y hy=>by grind) hr cB (fun t y b ab q1 q2 q3=>hag t y b ab q1 q2 (by grind))
   unfold Oper.wp;rw [cE];exact hK u fun d hd=>by grind
 .rename_i st1 hw;obtain ⟨w1,w2,w3⟩:=Xx hw;obtain ⟨p1,p2,p3,p4⟩:=Xp h;have dJ: ∀d,x.2.dst=some d->st'.tmp d=.tup []:=fun d hd=>by
   rcases p4 with ⟨e,_⟩ | ⟨d',e,_,he⟩
   .grind
   .rw [hd] at e;obtain rfl:=Ac e;show T.get .undef st'.env d=.tup [];rw [he,T.get_set,AB rfl]
  refine ⟨Yq.same (p1.trans w1) (p2.trans w2) fun ho=>(w3 (by grind)).1,fun _=>⟨p1.trans w1,p2.trans w2⟩,fun _ _ _ b _ _=>by rw [p1,w1],fun _ _ b _ _=>by rw [p1,w1],fun hk hg=> ?_,fun d hd=> ?_,fun ho t ht=> ?_,fun ho ρ a w ev hsz hev hgr hr cB K Q hK=> ?_,fun ho hk ρ a w ev mem next hsz hev hgr hr cB hag K Q hK=> ?_⟩
  .grind [Vg,Dm]
  .grind
  .rw [<-(w3 (by grind)).2 t];show T.get .undef st'.env t=T.get .undef st1.env t
   grind [T.get_set]
  .have ho1:st1.ob=true:=by grind
   rw [Wu hw ho1 hsz hgr,At (by simp)];refine hK ρ undef w (fun d hd=>by rw [dJ d hd];exact .tup [] #[] rfl fun i h1 _=>by simp at h1) ?_ ?_ fun b ab l _ k2 k3=>cB.blk b l ab k3 k2
   .grind
   .rw [p1,p2,w1,w2];exact Ev.refl _ _ _ _ _ cB.dom
  .have ho1:st1.ob=true:=by grind
   rw [Wu hw ho1 hsz hgr,At (by simp)];exact hK undef fun d hd=>by rw [dJ d hd];exact .tup [] #[] rfl fun i h1 _=>by simp at h1
def E7 (D:List Deferred) (ρ:BD) (cx:BK) (st st':St) (w:World):Exit->Act->World->Prop:=fun e a' w'=>
 e=.normal /\a'.defers=D/\ ∃ρ',Xm ρ' st'.env cx.n a'.tmps/\BF ρ' st'.mem st'.next w'/\Ev ρ ρ' cx.floor st.mem st.next st'.mem st'.next w w'
def LT (ρ:BD) (k:Nat) (o:Obj):BD:=⟨ρ.f,fun j=>if j=k then some o else ρ.fz j,ρ.lp⟩
theorem Mh {k:Nat} {o:Obj} (h:ρ.fz k=none):ρ.le (LT ρ k o):=
 ⟨fun _ _ e=>e,fun j o' e=>by
  show (if j=k then some o else ρ.fz j)=some o'
  grind,fun _ _ e=>e⟩
theorem BF.froze {mem:BH} {next:Nat} {w:World} (h:BF ρ mem next w) (vs:Array Value) (el:TypeId):
  BF (LT ρ w.heap.size (.cells vs el)) mem next {w with heap:=w.heap.push (.cells vs el)}:=by
 have hle:=Mh (o:=.cells vs el) (h.hold w.heap.size (Ak _));have push: ∀k,k<w.heap.size->(w.heap.push (.cells vs el))[k]? =w.heap[k]? :=fun k hk=>by
  grind
 refine ⟨h.dom,h.inj,fun b l ab e hm=> ?_,fun k o e=> ?_,fun b l e hs=> ?_,fun b l e=> ?_,h.bd,h.ldom.1,h.ldom.2.mono hle.2.1⟩
 .exact (h.blk b l ab e hm).world hle (push _ (h.real b l e))
 .have e:(if k=w.heap.size then some (.cells vs el) else ρ.fz k)=some o:=e;show (w.heap.push (.cells vs el))[k]? =some o;by_cases hk:k=w.heap.size
  .grind
  .rw [At hk] at e;have:=h.old k o e
   grind
 .have:=h.real b l e;show (if l.blk=w.heap.size then _ else ρ.fz l.blk)=none;rw [At (by omega)];exact h.sep b l e hs
 .have:=h.real b l e
  grind
theorem Ev.froze {mem:BH} {next:Nat} {w:World} (h:BF ρ mem next w) (floor:Nat) (m:BH) (vs:Array Value) (el:TypeId):
  Ev ρ (LT ρ w.heap.size (.cells vs el)) floor m next m next w {w with heap:=w.heap.push (.cells vs el)}:=by
 have hle:=Mh (o:=.cells vs el) (h.hold w.heap.size (Ak _));refine ⟨hle,fun _ _=>rfl,Ak _,fun _ _ _ _ _ q=>q,fun k o q _=> ?_,fun b l hb hl=> ?_,?_,rfl,rfl,rfl,fun k hk=> ?_⟩
 .grind
 .have:=h.dom b l hl;omega
 .grind
 .show (if k=w.heap.size then _ else ρ.fz k)=ρ.fz k
  grind
theorem Sl {w:World} {t:TypeId} {len:Nat} {ps:List (Nat×BA)} {qs:List (Nat×Value)} {v:BA} (hb:NL P t len ps=some v) (hp:Jm ρ ps qs) (hf:ρ.fz w.heap.size=none):
  ∃u vs el,(Instr.buildSlice t len qs.toArray).run P w=.ok u {w with heap:=w.heap.push (.cells vs el)}/\Zb (LT ρ w.heap.size (.cells vs el)) v u:=by
 unfold NL at hb;split at hb
 .rename_i e hu;split at hb
  .rename_i i zero hi hz;obtain ⟨hc,hb⟩:=Zq hb;simp only [Ad] at hc;obtain ⟨⟨hl1,hs1⟩,hle,hzl⟩:=hc;have hl1:=Af hl1;have hs1:=Af hs1;have hle:=Af hle;have hzl:=Ae hzl;split at hb
   .rename_i cells cG;obtain ⟨hc,hb⟩:=Zq hb;simp only [Ad] at hc;obtain ⟨hn,hpf⟩:=hc;have hn:=Ae hn;obtain rfl:=Ac hb;obtain ⟨_,z,_,_,hzr,hzv⟩:=Xw (ρ:=ρ) hz;have dG:=Hp hzr len (len*i.size) (by rw [hzl]);obtain ⟨arr,h1,h2⟩:=Vo cG dG hp;have hsz:arr.size=len*i.size:=(by rw [<-h2.1,hn]);have hgt': ¬2 ^ 24<len*i.size:=(by omega);have hpos:0<len*i.size:=Nat.mul_pos (by omega) (by omega);have h0: ¬len*i.size=0:=(by omega);refine ⟨.slice (some ⟨w.heap.size,0,none⟩) len len,arr,e,?_,?_⟩
    .have hsz0: ¬i.size=0:=(by omega);simp [Instr.buildSlice,run_underlying hu,Zm hi,h0,hsz0,hzv,h1,newRow,hgt']
    .have hin: ∀a b,a<len->b<i.size->a*i.size+b<cells.length:=fun a b ha hb=>by
      have:(a+1)*i.size<=len*i.size:=Av _ ha
      grind
     have cI: ∀a,a<len->((cells.drop (a*i.size)).take i.size).length =i.size:=fun a ha=>by
      have:(a+1)*i.size<=len*i.size:=Av _ ha
      grind
     refine .dat len _ w.heap.size 0 i.size len (fun a b=>arr.getD (a*i.size+b) undef) (Ak _) (fun a ha=>cI a ha) (fun a b ha hb=> ?_) (fun a b ha hb=> ?_)
     .have hb':b<i.size:=(by grind);have h3:=hin a b ha hb';have e1:((cells.drop (a*i.size)).take i.size)[b]=cells[a*i.size+b]:=by
       grind
      rw [e1];have h4:a*i.size+b<arr.size:=(by grind);have e2:arr.getD (a*i.size+b) undef=arr[a*i.size+b]:=(by simp [h4]);rw [e2];have h5:=Wd 6 _ _ (Az.1 hpf _ (AR h3)) (h2.2 _ h3 h4);exact h5.mono (Mh (o:=.cells arr e) hf).bare
     .have h3:=hin a b ha hb;have h4:a*i.size+b<arr.size:=(by grind);refine ⟨arr,e,(0,0),?_,?_⟩
      .show (if w.heap.size=w.heap.size then some (Obj.cells arr e) else _)=_
       grind
      .simp [h4]
   .cases hb
  .cases hb
 .cases hb
structure L4 (S:BC) (z:Nat) (P:Program) (ops:Array Oper) (cx:BK) (x:Bool×Oper) (st st':St):Prop where
 inv:Yq cx.floor st st'
 stay:(Yp z x.2.op=.pure \/Yp z x.2.op=.read \/Yp z x.2.op=.lit)->st'.mem=st.mem/\st'.next=st.next
 lift:st'.ob=true->x.1=true->Yp z x.2.op=.call -> ∀b,b<st.next->Cf S x.2.op st.eval≠some b->Zs st'.mem b=Zs st.mem b
 foot:st'.ob=true->Yp z x.2.op=.chain -> ∀b,b<st.next->CW x.2.op st.eval≠some b->Zs st'.mem b=Zs st.mem b
 fresh:st'.ob=true->(Yp z x.2.op=.alloc \/Yp z x.2.op=.birth)->x.2.guard=none-> ∃cells ty,st'.mem=Yi st.mem st.next (some ⟨cells,ty,none⟩)/\st'.next=st.next+1/\
  ∀(ρ:BD) (a:Act) (w:World) (ev:Operand->BA),(∀y,y∈x.2.op.operands->ev y=st.eval y)->Vb ρ ev a.eval x.2.op->
   ∃u vs el,el=ty/\Wx ρ cells vs/\(execOp a.eval x.2).run P w=.ok (.value u) {w with heap:=w.heap.push (.cells vs el)}/\ ∀ρ':BD,ρ' st.next=some ⟨w.heap.size,0,cells.length,vs.size⟩-> ∀d,x.2.dst=some d->Zb ρ' (st'.tmp d) u
 slot: ∀d,x.2.dst=some d->d<cx.n
 other:st'.ob=true-> ∀t,x.2.dst≠some t->st'.tmp t=st.tmp t
 does:st'.ob=true->(Yp z x.2.op=.chain \/Yp z x.2.op=.call)-> ∀(ρ:BD) (a:Act) (w:World) (ev:Operand->BA),a.tmps.size=cx.n->(∀y,y∈x.2.op.operands->ev y=st.eval y)->(∀d,Wm ops x.2=some d->Zb ρ (st.tmp d) (a.tmps.getD d undef))->Vb ρ ev a.eval x.2.op->BF ρ st.mem st.next w->
  ∀(K:Act->World->Prop) (Q:Exit->Act->World->Prop),(∀ρ' u w',(∀d,x.2.dst=some d->Zb ρ' (st'.tmp d) u)->BF ρ' st'.mem st'.next w'->Ev ρ ρ' cx.floor st.mem st.next st'.mem st'.next w w'->(∀b ab l,Ca x.2.op st.eval st.mem=some b->Zs st.mem b=some ab->ρ b=some l->Xu ρ w' ab l)->K (a.put x.2.dst u) w')->
   if Region.wanted x.2 (yielded ops a.tmps) then x.2.wp P a w K Q else K (a.put x.2.dst undef) w
 calm:st'.ob=true->(Yp z x.2.op=.pure \/Yp z x.2.op=.read)-> ∀(ρ:BD) (a:Act) (w:World) (ev:Operand->BA) (mem:BH) (next:Nat),a.tmps.size=cx.n->(∀y,y∈x.2.op.operands->ev y=st.eval y)->(∀d,Wm ops x.2=some d->Zb ρ (st.tmp d) (a.tmps.getD d undef))->Vb ρ ev a.eval x.2.op->BF ρ mem next w->
  (∀t y b ab,x.2.op=.load t y->Cc x.2.op ev=some b->Zs st.mem b=some ab->Zs mem b=some ab)-> ∀(K:Act->World->Prop) (Q:Exit->Act->World->Prop),(∀u,(∀d,x.2.dst=some d->Zb ρ (st'.tmp d) u)->K (a.put x.2.dst u) w)->
   if Region.wanted x.2 (yielded ops a.tmps) then x.2.wp P a w K Q else K (a.put x.2.dst undef) w
 lit:st'.ob=true->Yp z x.2.op=.lit -> ∀(ρ:BD) (a:Act) (w:World) (ev:Operand->BA) (mem:BH) (next:Nat),a.tmps.size=cx.n->(∀y,y∈x.2.op.operands->ev y=st.eval y)->(∀d,Wm ops x.2=some d->Zb ρ (st.tmp d) (a.tmps.getD d undef))->Vb ρ ev a.eval x.2.op->BF ρ mem next w->
  ∀(K:Act->World->Prop) (Q:Exit->Act->World->Prop),(∀ρ' u w',(∀d,x.2.dst=some d->Zb ρ' (st'.tmp d) u)->BF ρ' mem next w'->(∀b,ρ' b=ρ b)->(∀floor m,Ev ρ ρ' floor m next m next w w')->K (a.put x.2.dst u) w')->
   if Region.wanted x.2 (yielded ops a.tmps) then x.2.wp P a w K Q else K (a.put x.2.dst undef) w
theorem WQ {z:Nat} {op:Op} (h:GG z op=false) (h2:isBirth z op=false):Yp z op=Yk op:=by unfold Yp;grind
theorem V3 {o:Oper} {t:TypeId} {z:List BA} (ho:o.op=.alloc t) (hz:Ux P t=some z) (a:Act) (w:World):
  ∃vs:Array Value,Wx ρ z vs/\(execOp a.eval o).run P w=.ok (.value (.pointer (some ⟨w.heap.size,0,none⟩))) {w with heap:=w.heap.push (.cells vs t)}:=by
 obtain ⟨dst,op,type,pos,after,guard⟩:=o;simp only at ho;subst ho;obtain ⟨_,zv,_,_,hzr,hzv⟩:=Xw (ρ:=ρ) hz;exact ⟨zv.cells,hzr,by simp_all [execOp,Instr.alloc,newVar,newRow]⟩
theorem UQ {w:World} {t:TypeId} {len:Nat} {ps:List (Nat×BA)} {qs:List (Nat×Value)} {cells:List BA} {e:TypeId} {sz:Nat} (hb:MT P t len ps=some (cells,e,sz)) (hp:Jm ρ ps qs):
  ∃vs el,el=e/\Wx ρ cells vs/\(Instr.buildSlice t len qs.toArray).run P w=.ok (.slice (some ⟨w.heap.size,0,none⟩) len len) {w with heap:=w.heap.push (.cells vs el)}/\cells.length=len*sz/\vs.size=len*sz:=by
 unfold MT at hb;split at hb
 .rename_i e hu;split at hb
  .rename_i i zero hi hz;obtain ⟨hc,hb⟩:=Zq hb;simp only [Ad] at hc;obtain ⟨⟨hl1,hs1⟩,hle,hzl⟩:=hc;have hl1:=Af hl1;have hs1:=Af hs1;have hle:=Af hle;have hzl:=Ae hzl;split at hb
   .rename_i cells cG;obtain ⟨hn,hb⟩:=Zq hb;have hn:=Ae hn;simp only [Ab,Aa] at hb;obtain ⟨rfl,rfl,rfl⟩:=hb;obtain ⟨_,z,_,_,hzr,hzv⟩:=Xw (ρ:=ρ) hz;have dG:=Hp hzr len (len*i.size) (by rw [hzl]);obtain ⟨arr,h1,h2⟩:=Vo cG dG hp;have hsz:arr.size=len*i.size:=(by rw [<-h2.1,hn]);have hgt': ¬2 ^ 24<len*i.size:=(by omega);have hpos:0<len*i.size:=Nat.mul_pos (by omega) (by omega);have h0: ¬len*i.size=0:=(by omega);have hsz0: ¬i.size=0:=(by omega);exact ⟨arr,e,rfl,h2,by simp [Instr.buildSlice,run_underlying hu,Zm hi,h0,hsz0,hzv,h1,newRow,hgt'],hn,hsz⟩
   .cases hb
  .cases hb
 .cases hb
theorem O3 (op:Op):Yk op≠ .lit :=by
 cases op with
 | call c=>
  obtain ⟨callee,args,argTypes⟩:=c;cases callee with
  | builtin b=>cases b <;> exact fun h=>by cases h
  | value f=>exact fun h=>by cases h
  | invoke r m=>exact fun h=>by cases h
 | _=>exact fun h=>by cases h
theorem PI (op:Op):Yk op≠ .birth :=by
 cases op with
 | call c=>
  obtain ⟨callee,args,argTypes⟩:=c;cases callee with
  | builtin b=>cases b <;> exact fun h=>by cases h
  | value f=>exact fun h=>by cases h
  | invoke r m=>exact fun h=>by cases h
 | _=>exact fun h=>by cases h
theorem Y4 {S:BC} {R:BI} (hN:CY P) (hS:Zu P S) (hRI:Ct R) (hR:D8 P R) {z:Nat} {ops:Array Oper} {x:Bool×Oper} {cx:BK} {st st':St} (hcx:cx.floor<=st.next) (h:GQ z P S R ops cx x st=some st'):
  L4 S z P ops cx x st st':=by
 unfold GQ at h;cases hz:GG z x.2.op with
 | false=>
  rw [hz,Ai] at h;cases hz2:isBirth z x.2.op with
  | false=>
   rw [hz2,Ai] at h;have s:=Od hN hS hRI hR hcx h;have hk:=WQ hz hz2;refine ⟨s.inv,fun k=> ?_,?_,?_,?_,s.slot,s.other,fun ho _=>s.does ho,fun ho k=>s.calm ho (by grind),fun _ k=> ?_⟩
   .rw [hk] at k;rcases k with k | k | k
    .exact s.stay (.inl k)
    .exact s.stay (.inr k)
    .exact absurd k (O3 _)
   .rw [hk];exact s.lift
   .rw [hk];exact s.foot
   .intro _ k hg;have k:Yk x.2.op=.alloc :=by
     grind [PI]
    obtain ⟨t,z0,e1,e2,e3,e4,e5⟩:=s.alloc k hg;refine ⟨z0,t,e3,e4,fun ρ a w ev _ _=> ?_⟩;obtain ⟨vs,hvs,cE⟩:=V3 (P:=P) (ρ:=ρ) e1 e2 a w;exact ⟨_,vs,t,rfl,hvs,cE,fun ρ' hρ d hd=>by rw [e5 d hd];exact .ptr _ 0 _ hρ⟩
   grind [O3]
  | true=>
   rw [hz2,Ah] at h;have hk:Yp z x.2.op=.birth :=by unfold Yp;grind
   obtain ⟨lf,o⟩:=x;obtain ⟨dst,op,type,pos,after,guard⟩:=o;simp only at h hz hz2 hk ⊢;cases op with
   | buildSlice t len parts=>
    split at h
    .cases h
    .rename_i st1 hw;obtain ⟨w1,w2,w3⟩:=Xx hw;unfold Lg at h;simp only at h;split at h
     .rename_i cells e sz hv;obtain ⟨p1,p2,p3,p4⟩:=Xp h;have dJ: ∀d,dst=some d->st'.tmp d=.sl st1.next 0 len (bif cx.sym then .un sz else .ex len):=fun d hd=>by
       rcases p4 with ⟨e,_⟩ | ⟨d',e,_,he⟩
       .grind
       .rw [hd] at e;obtain rfl:=Ac e;show T.get .undef st'.env d=_;rw [he,T.get_set,AB rfl]
      have hi1:Yq cx.floor st st1:=Yq.same w1 w2 fun ho=>(w3 ho).1;have hi2:Yq cx.floor (BY st1 cells e) st':=Yq.same p1 p2 fun ho=>by grind
      obtain ⟨env1,DI,next1,orc1,ob1⟩:=st1;simp only [BY] at p1 p2 p3 p4;simp only at w1 w2 dJ;refine ⟨(hi1.trans (Yq.new _ _ _)).trans hi2,(fun k=>by grind),(fun _ _ k=>by grind),(fun _ k=>by grind),fun ho _ _=> ?_,fun d hd=> ?_,fun ho t ht=> ?_,(fun _ k=>by grind),(fun _ k=>by grind),(fun _ k=>by grind)⟩
      .have ho1:ob1=true:=(by grind);have cM:=(w3 ho1).2;refine ⟨cells,e,by grind,by rw [p2,w2],fun ρ a w ev hev hr=> ?_⟩;have dM: ∀y,St.eval ⟨env1,DI,next1,orc1,ob1⟩ y=st.eval y:=fun y=>by cases y <;> first | rfl | exact cM _
       have hpr:Jm ρ (parts.toList.map fun p=>(p.1,St.eval ⟨env1,DI,next1,orc1,ob1⟩ p.2)) (parts.toList.map fun p=>(p.1,a.eval p.2)):=Ka parts.toList fun p hp=>by have hm:p.2∈(Op.buildSlice t len parts).operands :=(by grind [Op.operands]);rw [dM p.2,<-hev p.2 hm];exact hr p.2 hm
       obtain ⟨vs,el,hel,hvs,cE,hn1,hn2⟩:=UQ (w:=w) hv hpr;have hpa:(parts.map fun (i,x)=>(i,a.eval x))=(parts.toList.map fun p=>(p.1,a.eval p.2)).toArray :=by
        grind
       refine ⟨.slice (some ⟨w.heap.size,0,none⟩) len len,vs,el,hel,hvs,by simp [execOp,hpa,cE],fun ρ' hρ d hd=> ?_⟩;rw [dJ d hd,w2];refine .sl _ 0 len _ ⟨w.heap.size,0,cells.length,vs.size⟩ len hρ ?_ (Ak _);cases cx.sym with
       | true=>exact ⟨by grind,by grind⟩
       | false=>exact rfl
      .grind
      .have ho1:ob1=true:=(by grind);rw [<-(w3 ho1).2 t];show T.get .undef st'.env t=T.get .undef env1 t
       grind [T.get_set]
     .cases h
    .rename_i st1 hw;obtain ⟨w1,w2,w3⟩:=Xx hw;obtain ⟨p1,p2,p3,p4⟩:=Xp h;have hi1:Yq cx.floor st st1:=Yq.same w1 w2 fun ho=>(w3 ho).1;have hi2:Yq cx.floor st1 st':=Yq.same p1 p2 fun ho=>by grind
     refine ⟨hi1.trans hi2,(fun k=>by grind),(fun _ _ k=>by grind),(fun _ k=>by grind),fun _ _ hg=> ?_,fun d hd=> ?_,fun ho t ht=> ?_,(fun _ k=>by grind),(fun _ k=>by grind),(fun _ k=>by grind)⟩
     .grind [Vg,Dm]
     .grind
     .have ho1:st1.ob=true:=(by grind);rw [<-(w3 ho1).2 t];show T.get .undef st'.env t=T.get .undef st1.env t
      grind [T.get_set]
   | _=>cases hz2
 | true=>
  rw [hz,Ah] at h;have hk:Yp z x.2.op=.lit :=by unfold Yp;rw [hz];rfl
  obtain ⟨lf,o⟩:=x;obtain ⟨dst,op,type,pos,after,guard⟩:=o;simp only at h hz hk ⊢;cases op with
  | buildSlice t len parts=>
   split at h
   .cases h
   .rename_i st1 hw;obtain ⟨w1,w2,w3⟩:=Xx hw;unfold M1 at h;simp only at h;split at h
    .rename_i v hv;obtain ⟨p1,p2,p3,p4⟩:=Xp h;have dJ: ∀d,dst=some d->st'.tmp d=v:=fun d hd=>by
      rcases p4 with ⟨e,_⟩ | ⟨d',e,_,he⟩
      .grind
      .rw [hd] at e;obtain rfl:=Ac e;show T.get .undef st'.env d=v;rw [he,T.get_set,AB rfl]
     have hi1:Yq cx.floor st st1:=Yq.same w1 w2 fun ho=>(w3 ho).1;have hi2:Yq cx.floor st1 st':=Yq.same p1 p2 fun ho=>by grind
     refine ⟨hi1.trans hi2,fun _=>⟨p1.trans w1,p2.trans w2⟩,(fun _ _ k=>by grind),(fun _ k=>by grind),(fun _ k=>by grind),fun d hd=> ?_,fun ho t ht=> ?_,(fun _ k=>by grind),(fun _ k=>by grind),fun ho _ ρ a w ev mem next hsz hev hgr hr cB K Q hK=> ?_⟩
     .grind
     .have ho1:st1.ob=true:=(by grind);rw [<-(w3 ho1).2 t];show T.get .undef st'.env t=T.get .undef st1.env t
      grind [T.get_set]
     .have ho1:st1.ob=true:=(by grind);have cM:=(w3 ho1).2;have dM: ∀y,st1.eval y=st.eval y:=fun y=>by cases y <;> first | rfl | exact cM _
      rw [Wu hw ho1 hsz hgr,AB rfl];have hpr:Jm ρ (parts.toList.map fun p=>(p.1,st1.eval p.2)) (parts.toList.map fun p=>(p.1,a.eval p.2)):=Ka parts.toList fun p hp=>by have hm:p.2∈(Op.buildSlice t len parts).operands :=(by grind [Op.operands]);rw [dM p.2,<-hev p.2 hm];exact hr p.2 hm
      obtain ⟨u,vs,el,cE,hu⟩:=Sl hv hpr (cB.hold w.heap.size (Ak _));have:(parts.map fun (i,x)=>(i,a.eval x))=(parts.toList.map fun p=>(p.1,a.eval p.2)).toArray :=by
       grind
      unfold Oper.wp;have hrun':(execOp a.eval ⟨dst,.buildSlice t len parts,type,pos,after,guard⟩).run P w=.ok (.value u) {w with heap:=w.heap.push (.cells vs el)}:=by simp [execOp,this,cE]
      rw [hrun'];exact hK _ u _ (fun d hd=>by grind) (cB.froze vs el) (fun _=>rfl) fun floor m=>Ev.froze cB floor m vs el
    .cases h
   .rename_i st1 hw;obtain ⟨w1,w2,w3⟩:=Xx hw;obtain ⟨p1,p2,p3,p4⟩:=Xp h;have dJ: ∀d,dst=some d->st'.tmp d=.tup []:=fun d hd=>by
     rcases p4 with ⟨e,_⟩ | ⟨d',e,_,he⟩
     .grind
     .rw [hd] at e;obtain rfl:=Ac e;show T.get .undef st'.env d=_;rw [he,T.get_set,AB rfl]
    have hi1:Yq cx.floor st st1:=Yq.same w1 w2 fun ho=>(w3 ho).1;have hi2:Yq cx.floor st1 st':=Yq.same p1 p2 fun ho=>by grind
    refine ⟨hi1.trans hi2,fun _=>⟨p1.trans w1,p2.trans w2⟩,(fun _ _ k=>by grind),(fun _ k=>by grind),(fun _ k=>by grind),fun d hd=> ?_,fun ho t ht=> ?_,(fun _ k=>by grind),(fun _ k=>by grind),fun ho _ ρ a w ev mem next hsz hev hgr hr cB K Q hK=> ?_⟩
    .grind
    .have ho1:st1.ob=true:=(by grind);rw [<-(w3 ho1).2 t];show T.get .undef st'.env t=T.get .undef st1.env t
     grind [T.get_set]
    .have ho1:st1.ob=true:=(by grind);rw [Wu hw ho1 hsz hgr,At Bool.false_ne_true];exact hK ρ undef w (fun d hd=>by rw [dJ d hd];exact .tup [] #[] rfl fun i h1 _=>by simp at h1) cB (fun _=>rfl) fun floor m=>Ev.refl _ _ _ _ _ cB.dom
  | _=>cases hz
end
section
variable {ops:Array Oper}
def Dk (ops:Array Oper) (S:Nat->Bool):Prop:= ∀j o,ops[j]? =some o->S j=true-> ∀e∈o.after.toList,Region.binds .any e=true->S e.on=true
def Do (S:Nat->Bool) (o:Oper):Prop:= ∀e∈o.after.toList,Region.binds .any e=true->S e.on=true
def E9 (ops:Array Oper) (i:Nat) (o:Oper):Prop:= ∀S,Dk ops S->Do S o->S i=true
theorem Py (acc:List Nat) (i:Nat): ∀(es:List Edge) (s:Nat),(es.foldl (fun s e=>bif Region.binds .any e then s||| (2 ^ e.on)||| acc.getD e.on 0 else s) s).testBit i=true->
  s.testBit i=true\/ ∃e∈es,Region.binds .any e=true/\(e.on=i\/(acc.getD e.on 0).testBit i=true)
 | [],s,h=>.inl h
 | e::es,s,h=>by
  simp only [List.foldl_cons] at h;rcases Py acc i es _ h with h | ⟨e',he',h1,h2⟩;all_goals grind
theorem Pw (dQ: ∀(j:Nat) o,ops[j]? =some o-> ∀e∈o.after.toList,Region.binds .any e=true->e.on<j): ∀(l:List Oper) (acc:List Nat),acc.length+l.length=ops.size->(∀k,l[k]? =ops[acc.length+k]?)->
  (∀k o,k<acc.length->ops[k]? =some o-> ∀i,(acc.getD k 0).testBit i=true->i<k/\E9 ops i o)->
  ∀k o,ops[k]? =some o-> ∀i,((DE l acc).getD k 0).testBit i=true->i<k/\E9 ops i o
 | [],acc,cC,_,hacc,k,o,ho,i,h=>by have hk:k<ops.size:=(As.1 ho).1;simp at cC;exact hacc k o (by omega) ho i h
 | x::l,acc,cC,hl,hacc,k,o,ho,i,h=>by
  unfold DE at h;refine Pw dQ l (acc++[x.after.toList.foldl (fun s e=>bif Region.binds .any e then s||| (2 ^ e.on)||| acc.getD e.on 0 else s) 0]) (by grind) (fun k=>by
   have:=hl (k+1)
   simpa [AF,Nat.add_comm 1 k] using this) (fun k' o' hk' ho' i' hi'=> ?_) k o ho i h
  by_cases hlt:k'<acc.length
  .refine hacc k' o' hlt ho' i' ?_
   grind
  .have hk2:k'=acc.length:=by grind
   subst hk2;have hx:ops[acc.length]? =some x:=by simpa using (hl 0).symm
   rw [hx] at ho';obtain rfl:=Ac ho';have hg:(acc++[x.after.toList.foldl (fun s e=>bif Region.binds .any e then s||| (2 ^ e.on)||| acc.getD e.on 0 else s) 0]).getD acc.length 0=x.after.toList.foldl (fun s e=>bif Region.binds .any e then s||| (2 ^ e.on)||| acc.getD e.on 0 else s) 0:=by
    grind
   rw [hg] at hi';rcases Py acc i' _ _ hi' with h0 | ⟨e,he,hb,h1⟩
   .simp at h0
   .have hlt':=dQ _ _ hx e he hb;rcases h1 with rfl | h1
    .exact ⟨hlt',fun S _ hr=>hr e he hb⟩
    .have ho2:ops[e.on]? =some (ops[e.on]'(by grind)):=(by simp);obtain ⟨q1,q2⟩:=hacc e.on _ hlt' ho2 i' h1;exact ⟨by omega,fun S hc hr=>q2 S hc fun e' he' hb'=>hc e.on _ ho2 (hr e he hb) e' he' hb'⟩
theorem Mb {z:Nat} {op:Op} {k:DL} (hk:k≠ .lit) (hb:k≠ .birth):Yp z op=k↔Yk op=k/\GG z op=false/\isBirth z op=false:=by
 grind [Yp]
theorem TJ {z:Nat} {op:Op} (h:GG z op=true):Yk op=.chain :=by
 cases op <;> first | rfl | (cases h;done)
theorem UX {z:Nat} {op:Op} (h:isBirth z op=true):Yk op=.chain :=by
 cases op <;> first | rfl | (cases h;done)
theorem QF {z:Nat} {op:Op} {k:DL} (hk:k≠ .lit) (hb:k≠ .birth) (hc:k≠ .chain):Yp z op=k↔Yk op=k:=by
 rw [Mb hk hb]
 grind [TJ,UX]
theorem Kh {z:Nat} {op:Op}:Yp z op=.alloc ↔Yk op=.alloc :=QF (fun h=>by cases h) (fun h=>by cases h) fun h=>by cases h
theorem O4 {z:Nat} {op:Op}:Yp z op=.read ↔Yk op=.read :=QF (fun h=>by cases h) (fun h=>by cases h) fun h=>by cases h
theorem PA {z:Nat} {op:Op} (h:Yp z op=.birth):isBirth z op=true:=by
 grind [Yp,PI]
structure QW (z:Nat) (ops:Array Oper):Prop where
 ord: ∀(j:Nat) o,ops[j]? =some o-> ∀e∈o.after.toList,Region.binds .any e=true->e.on<j
 guard: ∀(j:Nat) o,ops[j]? =some o->(Yp z o.op=.alloc \/Yp z o.op=.birth)->o.guard=none
 bits: ∀(j:Nat) o,ops[j]? =some o-> ∀i,((DE ops.toList []).getD j 0).testBit i=true->i<j/\E9 ops i o
 pair: ∀(i j:Nat) p o,i<j->ops[i]? =some p->ops[j]? =some o->E9 ops i o\/(p.apart ops o=true/\M0 (Yp z p.op) (Yp z o.op)=true/\(Yp z o.op=.read ->Qo ops i=true)/\(Yp z p.op=.read ->Qo ops j=true))
 dst: ∀(i j:Nat) p o d,i<j->ops[i]? =some p->ops[j]? =some o->p.dst=some d->o.dst≠some d
 alloc: ∀(i j:Nat) p o,i<j->ops[i]? =some p->ops[j]? =some o->Yp z o.op=.alloc ->p.apart ops o=true
 birth: ∀(i j:Nat) p o,i<j->ops[i]? =some p->ops[j]? =some o->Yp z o.op=.birth -> ¬(Yp z p.op=.chain \/Yp z p.op=.call)
theorem MJ {z:Nat} (h:Fn z ops=true):QW z ops:=by
 have hj: ∀(j:Nat) o,ops[j]? =some o->(o.after.toList.all (fun e=> !Region.binds .any e||Nat.ble (e.on+1) j)=true/\(!(Yk o.op == .alloc ||isBirth z o.op)||o.guard.isNone)=true)/\ ∀(i:Nat) p,i<j->ops[i]? =some p->K9 z ops i j p o=true:=by
  intro j o ho;have hlt:j<ops.size:=(As.1 ho).1;have:=Az.1 h j (AM.2 hlt)
  grind
 have ord: ∀(j:Nat) o,ops[j]? =some o-> ∀e∈o.after.toList,Region.binds .any e=true->e.on<j:=by intro j o ho e he hb;have:=Az.1 (hj j o ho).1.1 e he;rw [hb] at this;exact Af (by grind)
 have bits:=Pw ord ops.toList [] (by simp) (fun k=>by simp) (fun k o hk=>by simp at hk);refine ⟨ord,fun j o ho hk=> ?_,fun j o ho i hb=>bits j o ho i hb,fun i j p o hij hp ho=> ?_,fun i j p o d hij hp ho hd=> ?_,fun i j p o hij hp ho hk=> ?_,fun i j p o hij hp ho hk hc=> ?_⟩
 .have:=(hj j o ho).1.2;rcases hk with hk | hk;all_goals simp_all [Kh,PA]
 .have hpo:=(hj j o ho).2 i p hij hp;unfold K9 at hpo;simp only [Ad,A9] at hpo;cases hb:((DE ops.toList []).getD j 0).testBit i with
  | true=>grind
  | false=>
   right;rcases hpo.1.1.1 with h1 | ⟨h1,h2⟩
   .grind
   .have hi:i<ops.size:=(As.1 hp).1;have hjl:j<ops.size:=(As.1 ho).1;refine ⟨h1,h2,fun hr=> ?_,fun hr=> ?_⟩
    .unfold Qo;rw [List.any_eq_true];refine ⟨j,AM.2 hjl,?_⟩;rw [ho,Option.any_some,O4.1 hr,hb];have:Nat.ble (i+1) j=true:=AI hij
     grind
    .unfold Qo;rw [List.any_eq_true];refine ⟨i,AM.2 hi,?_⟩;rw [hp,Option.any_some,O4.1 hr,hb];have:Nat.ble (i+1) j=true:=AI hij
     grind
 all_goals grind [K9,Kh,PA]
theorem Wh {z:Nat} {i:Nat} {o:Oper} (ho:ops[i]? =some o):isAlloc ops i=true↔Yp z o.op=.alloc :=by
 grind [Kh,isAlloc]
theorem PP (i:Nat):i∈Zi ops↔i<ops.size:=by
 grind [Zi]
theorem Yg :(Zi ops).length =ops.size:=by
 unfold Zi;rw [AX,<-List.countP_eq_length_filter,<-List.countP_eq_length_filter];have:=List.length_eq_countP_add_countP (isAlloc ops) (l:=List.range ops.size)
 grind
def O0 (ops:Array Oper) (i j:Nat):Prop:=(isAlloc ops i=true/\isAlloc ops j=false)\/(isAlloc ops i=isAlloc ops j/\i<j)
theorem Sf :(Zi ops).Pairwise (O0 ops):=by
 unfold Zi;rw [List.pairwise_append];have hr:(List.range ops.size).Pairwise (· < ·):=List.pairwise_lt_range;refine ⟨?_,?_,?_⟩
 .refine ((hr.filter _).imp_of_mem fun {a b} ha hb h=> ?_);have h1:=(Bs.1 ha).2;have h2:=(Bs.1 hb).2;exact .inr ⟨h1.trans h2.symm,h⟩
 .refine ((hr.filter _).imp_of_mem fun {a b} ha hb h=> ?_);have h1:=(Bs.1 ha).2;have h2:=(Bs.1 hb).2;refine .inr ⟨?_,h⟩
  grind
 .intro a ha b hb;have h1:=(Bs.1 ha).2;have h2:=(Bs.1 hb).2;exact .inl ⟨h1,by grind⟩
theorem UW {k1 k2:Nat} (h:k1<k2) (h2:k2<(Zi ops).length):O0 ops ((Zi ops)[k1]'(by omega)) (Zi ops)[k2]:=
 List.pairwise_iff_getElem.1 Sf k1 k2 (by omega) h2 h
end
def Ia (ops:Array Oper) (x y:CO):Prop:=clash x.2.1 y.2.2=true\/clash x.2.2 y.2.1=true->ordered ops x.1 y.1=true
theorem TF {ops:Array Oper} {x y:CO} (h:K5 ops x y=true):Ia ops x y:=by
 intro hc
 grind [K5]
theorem Kb {z:Nat} {P:Program} {S:BC} {R:BI} {ops:Array Oper} {cx:BK}: ∀(l:List (Nat×Bool×Oper)) (acc:List CO) (st st':St),Hn z P S R ops cx l acc st=some st'->
  ∃f:Nat->St,f 0=st/\f l.length=st'/\(∀(k:Nat) (h:k<l.length),GQ z P S R ops cx l[k].2 (f k)=some (f (k+1)))/\
   (∀(k:Nat) (h:k<l.length),∀y∈acc,Ia ops (Qs S l[k] (f k).eval) y\/lateF z ops l[k] (f k).eval (f k).mem y=true)/\
   ∀(q k:Nat) (hq:q<k) (h:k<l.length),Ia ops (Qs S l[k] (f k).eval) (Qs S (l[q]'(by omega)) (f q).eval)\/lateF z ops l[k] (f k).eval (f k).mem (Qs S (l[q]'(by omega)) (f q).eval)=true
 | [],acc,st,st',h=>by have h:some st=some st':=h;obtain rfl:=Ac h;exact ⟨fun _=>st,rfl,rfl,fun k h=>by simp at h,fun k h=>by simp at h,fun q k _ h=>by simp at h⟩
 | x::l,acc,st,st',h=>by
  have h:(bif acc.all (fun y=>K5 ops (Qs S x st.eval) y||lateF z ops x st.eval st.mem y) then
    match GQ z P S R ops cx x.2 st with
    | some st'=>Hn z P S R ops cx l (Qs S x st.eval::acc) st'
    | none=>none
   else none)=some st':=h
  obtain ⟨hacc,h⟩:=Zq h;split at h
  .rename_i st1 h1;obtain ⟨f,f0,fn,fs,fa,fp⟩:=Kb l _ st1 st' h;refine ⟨fun k=>match k with | 0=>st | k+1=>f k,rfl,fn,fun k hk=> ?_,fun k hk y hy=> ?_,fun q k hqk hk=> ?_⟩;all_goals grind [TF]
  .cases h
theorem QS {S:BC} {op:Op} (h:Yk op=.chain) (ev:Operand->BA):Cf S op ev=CW op ev:=by
 cases op with
 | call c=>
  obtain ⟨callee,args,argTypes⟩:=c;cases callee with
  | value f=>cases h
  | _=>rfl
 | _=>rfl
theorem Kr (p q:Nat->Bool) (i:Nat): ∀(n:Nat),(∀k,k≠i->q k=p k)->p i=true->q i=false->i<n->(List.range n).countP q+1=(List.range n).countP p
 | 0,_,_,_,h=>absurd h (AC _)
 | n+1,hpq,hp,hq,h=>by
  rw [List.range_succ,List.countP_append,List.countP_append];by_cases hi:i<n
  .have:=Kr p q i n hpq hp hq hi
   grind
  .have hin:i=n:=by omega
   subst hin;have e:(List.range i).countP q=(List.range i).countP p:=List.countP_congr fun k hk=>by
    grind
   grind
section
variable {P:Program}
theorem BF.unborn {ρ:BD} {mem:BH} {next:Nat} {w:World} (h:BF ρ mem next w) (o:Option BE):BF ρ (Yi mem next o) (next+1) w:=by
 have ne: ∀b l,ρ b=some l->b≠next:=fun b l e=>by have:=h.dom b l e;omega
 refine ⟨fun b l e=>by have:=h.dom b l e;omega,fun b b' l l' e e' he hs hs'=> ?_,fun b l ab e hm=> ?_,h.old,fun b l e hs=>h.sep b l e (by rwa [Zx _ _ (ne b l e)] at hs),h.real,fun b hb=>by rw [Zx _ _ (by omega)];exact h.bd b (by omega),⟨fun j l e=>AW (h.ldom.1 j l e),h.ldom.2⟩⟩
 .rw [Zx _ _ (ne b l e)] at hs;rw [Zx _ _ (ne b' l' e')] at hs';exact h.inj b b' l l' e e' he hs hs'
 .rw [Zx _ _ (ne b l e)] at hm;exact h.blk b l ab e hm
theorem BF.birth {ρ:BD} {mem:BH} {next:Nat} {w:World} (h:BF ρ mem next w) {b:Nat} {cs:List BA} {ty:TypeId} (hb:b<next) (hn:ρ b=none) (hm:Zs mem b=some ⟨cs,ty,none⟩) {vs:Array Value} (el:TypeId) (hv:Wx ρ cs vs) (hel:el=ty):
  BF (Xr ρ b ⟨w.heap.size,0,cs.length,vs.size⟩) mem next {w with heap:=w.heap.push (.cells vs el)}:=by
 have hle:=Vt (l:=⟨w.heap.size,0,cs.length,vs.size⟩) hn;have cI: ∀c l,Xr ρ b ⟨w.heap.size,0,cs.length,vs.size⟩ c=some l->(c=b/\l=⟨w.heap.size,0,cs.length,vs.size⟩)\/(c≠b/\ρ c=some l):=fun c l e=>by
  grind [Ww]
 refine ⟨fun c l e=> ?_,fun c c' l l' e e' hbl hs hs'=> ?_,fun c l ab e hc=> ?_,fun k o e=> ?_,fun c l e=> ?_,fun c l e=> ?_,h.bd,h.ldom⟩
 .rcases cI c l e with ⟨rfl,_⟩ | ⟨_,e⟩
  .exact hb
  .exact h.dom c l e
 .rcases cI c l e with ⟨hc,hl⟩ | ⟨hc,e2⟩ <;> rcases cI c' l' e' with ⟨hc',hl'⟩ | ⟨hc',e2'⟩
  .rw [hc,hc']
  .have:=h.real c' l' e2';grind
  .have:=h.real c l e2;grind
  .exact h.inj c c' l l' e2 e2' hbl hs hs'
 .rcases cI c l e with ⟨rfl,rfl⟩ | ⟨_,e⟩
  .rw [hm] at hc;obtain rfl:=Ac hc;have h1:=hv.1;refine .plain ⟨by simp [hel],rfl,by grind,(fun A e=>by cases e),vs,el,by simp,by simp,fun i hi=> ?_⟩;have h2:i<vs.size:=by grind
   exact ⟨vs[i],by grind,(hv.2 i hi h2).mono hle⟩
  .refine (h.blk c l ab e hc).world hle ?_;have:=h.real c l e
   grind
 .have hk:=h.old k o e
  grind
 .intro hs;rcases cI c l e with ⟨rfl,rfl⟩ | ⟨_,e⟩
  .exact h.hold _ (Ak _)
  .exact h.sep c l e hs
 .rcases cI c l e with ⟨rfl,rfl⟩ | ⟨_,e⟩
  .simp
  .have:=h.real c l e;simp;omega
structure CC (S:BC) (z:Nat) (P:Program) (ops:Array Oper) (cx:BK) (st:St) (f:Nat->St):Prop where
 chk:QW z ops
 f0:f 0=st
 hcx:cx.floor<=st.next
 ob: ∀k,k<=ops.size->(f k).ob =true
 step: ∀(k:Nat) (h:k<(Zi ops).length),L4 S z P ops cx (Qo ops (Zi ops)[k],ops.getD (Zi ops)[k] default) (f k) (f (k+1))
 foot: ∀(q k:Nat) (hq:q<k) (h:k<(Zi ops).length),Ia ops (Qs S ((Zi ops)[k],Qo ops (Zi ops)[k],ops.getD (Zi ops)[k] default) (f k).eval) (Qs S ((Zi ops)[q],Qo ops (Zi ops)[q],ops.getD (Zi ops)[q] default) (f q).eval)\/
  lateF z ops ((Zi ops)[k],Qo ops (Zi ops)[k],ops.getD (Zi ops)[k] default) (f k).eval (f k).mem (Qs S ((Zi ops)[q],Qo ops (Zi ops)[q],ops.getD (Zi ops)[q] default) (f q).eval)=true
variable {Sp:BC} {z:Nat} {ops:Array Oper} {cx:BK} {st:St} {f:Nat->St}
def BG (ops:Array Oper) (k:Nat):Nat:=(Zi ops).getD k ops.size
theorem L6 {k:Nat} (h:k<ops.size):BG ops k<ops.size:=by
 have hl:k<(Zi ops).length :=by rw [Yg];exact h
 have:BG ops k=(Zi ops)[k]:=by simp [BG,hl]
 rw [this];exact (PP _).1 (AR hl)
theorem Ky {k1 k2:Nat} (h:k1<k2) (h2:k2<ops.size):O0 ops (BG ops k1) (BG ops k2):=by
 grind [Yg,UW,BG]
theorem NM {i:Nat} (h:i<ops.size): ∃k,k<ops.size/\BG ops k=i:=by obtain ⟨k,hk,e⟩:=Bn ((PP (ops:=ops) i).2 h);exact ⟨k,by rw [Yg] at hk;exact hk,by simp [BG,hk,e]⟩
theorem CC.step' (g:CC Sp z P ops cx st f) {k:Nat} (h:k<ops.size): ∃o,ops[BG ops k]? =some o/\L4 Sp z P ops cx (Qo ops (BG ops k),o) (f k) (f (k+1)):=by
 have hl:k<(Zi ops).length :=by rw [Yg];exact h
 have e:BG ops k=(Zi ops)[k]:=by simp [BG,hl]
 have hlt:=L6 h;refine ⟨ops[BG ops k],by simp [hlt],?_⟩;have:=g.step k hl;rw [<-e] at this;have hd:ops.getD (BG ops k) default=ops[BG ops k]:=by simp [hlt]
 grind
theorem CC.foot' (g:CC Sp z P ops cx st f) {q k:Nat} (hq:q<k) (h:k<ops.size) {o x:Oper} (ho:ops[BG ops k]? =some o) (hx:ops[BG ops q]? =some x):
  Ia ops (BG ops k,Cc o.op (f k).eval,Cf Sp o.op (f k).eval) (BG ops q,Cc x.op (f q).eval,Cf Sp x.op (f q).eval)\/lateF z ops (BG ops k,Qo ops (BG ops k),o) (f k).eval (f k).mem (BG ops q,Cc x.op (f q).eval,Cf Sp x.op (f q).eval)=true:=by
 have hl:k<(Zi ops).length :=by rw [Yg];exact h
 have hl2:q<(Zi ops).length :=by omega
 have e:BG ops k=(Zi ops)[k]:=by simp [BG,hl]
 have e2:BG ops q=(Zi ops)[q]:=by simp [BG,hl2]
 have:=g.foot q k hq hl;rw [<-e,<-e2] at this;have hd:ops.getD (BG ops k) default=o:=by simp [ho]
 have hd2:ops.getD (BG ops q) default=x:=by simp [hx]
 rw [hd,hd2] at this;exact this
theorem CC.next_le (g:CC Sp z P ops cx st f): ∀{a b:Nat},a<=b->b<=ops.size->(f a).next <=(f b).next :=by
 intro a b hab hb
 induction b with
 | zero=>grind
 | succ b ih=>
  by_cases e:a=b+1
  .grind
  .obtain ⟨o,_,s⟩:=g.step' (k:=b) (by omega);exact AE (ih (by omega) (by omega)) s.inv.nxt
theorem CC.bd (g:CC Sp z P ops cx st f) (h0: ∀b,st.next<=b->Zs st.mem b=none): ∀{k:Nat},k<=ops.size-> ∀b,(f k).next <=b->Zs (f k).mem b=none:=by
 intro k hk
 induction k with
 | zero=>rw [g.f0];exact h0
 | succ k ih=>obtain ⟨o,_,s⟩:=g.step' (k:=k) (by omega);exact s.inv.bd (ih (by omega))
theorem CC.slot_stays (g:CC Sp z P ops cx st f) {t:Tmp}: ∀{a b:Nat},a<=b->b<=ops.size->(∀k o,a<=k->k<b->ops[BG ops k]? =some o->o.dst≠some t)->(f b).tmp t=(f a).tmp t:=by
 intro a b hab hb hno
 induction b with
 | zero=>grind
 | succ b ih=>
  by_cases e:a=b+1
  .subst e;rfl
  .obtain ⟨o,ho,s⟩:=g.step' (k:=b) (by omega);rw [s.other (g.ob _ hb) t (hno b o (by omega) (by omega) ho)]
   grind
def Uz (z:Nat) (o:Oper):Prop:=Yp z o.op=.chain \/Yp z o.op=.call
def GP (z:Nat) (o:Oper):Prop:=Yp z o.op=.pure \/Yp z o.op=.lit
def Cj (z:Nat) (o:Oper):Prop:=Yp z o.op=.alloc \/Yp z o.op=.birth
theorem GM (z:Nat) (o:Oper):GP z o\/Yp z o.op=.read \/Cj z o\/Uz z o:=by unfold Uz GP Cj;cases Yp z o.op <;> simp
theorem CC.mem_stays (g:CC Sp z P ops cx st f): ∀{a b:Nat},a<=b->b<=ops.size->(∀k o,a<=k->k<b->ops[BG ops k]? =some o->GP z o\/Yp z o.op=.read)->(f b).mem =(f a).mem /\(f b).next =(f a).next :=by
 intro a b hab hb hno
 induction b with
 | zero=>grind
 | succ b ih=>
  by_cases e:a=b+1
  .grind
  .obtain ⟨o,ho,s⟩:=g.step' (k:=b) (by omega);obtain ⟨e1,e2⟩:=s.stay (by rcases hno b o (by omega) (by omega) ho with (k | k) | k <;> simp [k])
   grind
theorem CC.blk_stays (g:CC Sp z P ops cx st f) {x:Nat}: ∀{a b:Nat},a<=b->b<=ops.size->x<(f a).next ->
  (∀k o,a<=k->k<b->ops[BG ops k]? =some o->GP z o\/Yp z o.op=.read \/(Yp z o.op=.call /\Qo ops (BG ops k)=true/\Cf Sp o.op (f k).eval ≠some x)\/(Yp z o.op=.chain /\CW o.op (f k).eval ≠some x)\/Cj z o)->Zs (f b).mem x=Zs (f a).mem x:=by
 intro a b hab hb hx hno
 induction b with
 | zero=>grind
 | succ b ih=>
  by_cases e:a=b+1
  .subst e;rfl
  .obtain ⟨o,ho,s⟩:=g.step' (k:=b) (by omega);have ih:=ih (by omega) (by omega) fun k o h1 h2=>hno k o h1 (by omega);rw [<-ih];rcases hno b o (by omega) (by omega) ho with h1 | h1 | ⟨h1,h2,h3⟩ | ⟨h1,h2⟩ | h1
   .rw [(s.stay (by rcases h1 with k | k <;> simp [k])).1]
   .rw [(s.stay (.inr (.inl h1))).1]
   .exact s.lift (g.ob _ hb) h2 h1 x (AJ hx (g.next_le (by omega) (by omega))) h3
   .exact s.foot (g.ob _ hb) h1 x (AJ hx (g.next_le (by omega) (by omega))) h2
   .obtain ⟨cells,ty,e1,_,_⟩:=s.fresh (g.ob _ hb) h1 (g.chk.guard _ o ho h1);have:=AJ hx (g.next_le (a:=a) (b:=b) (by omega) (by omega));rw [e1,Zx _ _ (by omega)]
structure Cy (z:Nat) (P:Program) (D:List Deferred) (ops:Array Oper) (cx:BK) (st:St) (f:Nat->St) (ρ0:BD) (w0:World) (S:Nat->Bool) (p:Nat) (ρ:BD) (a:Act) (w:World):Prop where
 closed:Dk ops S
 defers:a.defers=D
 tsz:a.tmps.size=cx.n
 done: ∀k o d,k<ops.size->ops[BG ops k]? =some o->S (BG ops k)=true->o.dst=some d->Zb ρ ((f (k+1)).tmp d) (a.tmps.getD d undef)
 undone: ∀t,(∀i o,ops[i]? =some o->S i=true->o.dst≠some t)->Zb ρ (st.tmp t) (a.tmps.getD t undef)
 ple:p<=ops.size
 past: ∀k o,k<ops.size->ops[BG ops k]? =some o->Cj z o->k<p
 chain: ∀k o,k<ops.size->ops[BG ops k]? =some o->Uz z o->(S (BG ops k)=true↔k<p)
 rel:BF ρ (f p).mem (f p).next w
 ev:Ev ρ0 ρ cx.floor st.mem st.next (f p).mem (f p).next w0 w
 late: ∀k q o x b ab,k<q->q<p->q<ops.size->ops[BG ops k]? =some o->ops[BG ops q]? =some x->S (BG ops k)=false->Uz z x->Ja z ops (BG ops k) (BG ops q)=true->Ca x.op (f q).eval (f q).mem =some b->Zs (f q).mem b=some ab->BF ρ (Yi .leaf b (some ab)) (f p).next w
 allocs: ∀k o,k<ops.size->ops[BG ops k]? =some o->Cj z o->S (BG ops k)=false->st.next<=(f k).next /\(f k).next <(f p).next /\ρ (f k).next =none/\Zs (f p).mem (f k).next =Zs (f (k+1)).mem (f k).next
theorem S4 {o:Oper} {t:Tmp} (h:Operand.tmp t∈o.op.operands):t∈o.looksAt ops:=by unfold Oper.looksAt;rw [List.mem_append];left;rw [List.mem_filterMap];exact ⟨.tmp t,Array.mem_toList_iff.2 h,rfl⟩
theorem UY {o:Oper} {d:Tmp} (h:Wm ops o=some d):d∈o.looksAt ops:=by
 grind [Oper.looksAt,Wm]
theorem Sq (g:CC Sp z P ops cx st f) {i:Nat} {o:Oper} (ho:ops[i]? =some o) (hk:Yp z o.op=.alloc):o.looksAt ops=[]:=by
 unfold Oper.looksAt;rw [g.chk.guard i o ho (.inl hk)];rw [Kh] at hk;obtain ⟨dst,op,type,pos,after,guard⟩:=o;simp only at hk ⊢;cases op with
 | alloc t=>rfl
 | call c=>
  obtain ⟨callee,args,argTypes⟩:=c;cases callee with
  | builtin b=>cases b <;> cases hk
  | value f=>cases hk
  | invoke r m=>cases hk
 | _=>cases hk
section
variable {D:List Deferred} {ρ0:BD} {w0:World} {S:Nat->Bool} {p:Nat} {ρ:BD} {a:Act} {w:World}
theorem M9 (g:CC Sp z P ops cx st f) {i j:Nat} {x y:Oper} {d:Tmp} (hi:ops[i]? =some x) (hj:ops[j]? =some y) (hx:x.dst=some d) (hy:y.dst=some d):i=j:=by
 rcases A3 i j with h | h | h
 .exact absurd hy (g.chk.dst i j x y d h hi hj hx)
 .exact h
 .exact absurd hx (g.chk.dst j i y x d h hj hi hy)
theorem Cy.looks (g:CC Sp z P ops cx st f) (I:Cy z P D ops cx st f ρ0 w0 S p ρ a w) {k:Nat} {o:Oper} (hk:k<ops.size) (ho:ops[BG ops k]? =some o) (hns:S (BG ops k)=false) (cK:Do S o) {t:Tmp} (ht:t∈o.looksAt ops):
  Zb ρ ((f k).tmp t) (a.tmps.getD t undef):=by
 by_cases hw: ∃i x,ops[i]? =some x/\S i=true/\x.dst=some t
 .obtain ⟨i,x,hx,hs,hd⟩:=hw;have hil:i<ops.size:=(As.1 hx).1;obtain ⟨k',hk',rfl⟩:=NM hil;have hne:k'≠k:=fun e=>by grind
  have hlt:k'<k:=by
   rcases AS k' k with h | h
   .exact h
   .exfalso;have hkk:k<k':=(by omega);rcases A3 (BG ops k) (BG ops k') with hij | hij | hij
    .rcases g.chk.pair _ _ _ _ hij ho hx with hf | ⟨hap,_⟩
     .have:=hf S I.closed (fun e he hb=>I.closed _ _ hx hs e he hb)
      grind
     grind [Oper.apart_spec]
    .grind
    .rcases Ky hkk hk' with ⟨h1,_⟩ | ⟨_,h2⟩;all_goals grind [Sq,Wh]
  have hst:(f k).tmp t=(f (k'+1)).tmp t:=g.slot_stays (by omega) (by omega) fun q y h1 h2 hy hyd=>by
   have:=M9 g hx hy hd hyd;have e:BG ops k'=BG ops q:=this;rcases Ky (ops:=ops) (k1:=k') (k2:=q) (by omega) (by omega) with ⟨h1,h2⟩ | ⟨_,h2⟩;all_goals grind
  rw [hst];exact I.done k' x t hk' hx hs hd
 .have hno: ∀i x,ops[i]? =some x->S i=true->x.dst≠some t:=fun i x hx hs hd=>hw ⟨i,x,hx,hs,hd⟩;have hst:(f k).tmp t=(f 0).tmp t:=g.slot_stays (AD _) (by omega) fun q y _ h2 hy hyd=>by
   have hqs:S (BG ops q)=false:=by
    grind
   rcases A3 (BG ops q) (BG ops k) with hij | hij | hij
   .rcases g.chk.pair _ _ _ _ hij hy ho with hf | ⟨hap,_⟩
    .have:=hf S I.closed cK
     grind
    grind [Oper.apart_spec]
   .rcases Ky (ops:=ops) h2 hk with ⟨h1,h3⟩ | ⟨_,h3⟩;all_goals grind
   .rcases Ky (ops:=ops) h2 hk with ⟨h1,_⟩ | ⟨_,h3⟩
    .have hap:=g.chk.alloc _ _ _ _ hij ho hy ((Wh (z:=z) hy).1 h1)
     grind [Oper.apart_spec]
    .omega
  rw [hst,g.f0];exact I.undone t hno
theorem Cy.operands (g:CC Sp z P ops cx st f) (I:Cy z P D ops cx st f ρ0 w0 S p ρ a w) {k:Nat} {o:Oper} (hk:k<ops.size) (ho:ops[BG ops k]? =some o) (hns:S (BG ops k)=false) (cK:Do S o):Vb ρ (f k).eval a.eval o.op:=by
 intro x hx;cases x with
 | tmp t=>exact I.looks g hk ho hns cK (S4 hx)
 | const v=>exact Ql v
 | global g=>exact .undef _
 | func f=>exact .fn f [] #[] rfl fun i h1 _=>by simp at h1
theorem Cy.slots (g:CC Sp z P ops cx st f) (I:Cy z P D ops cx st f ρ0 w0 S p ρ a w) {k:Nat} {o:Oper} (hk:k<ops.size) (ho:ops[BG ops k]? =some o) (hns:S (BG ops k)=false) {ρ':BD} (hle:ρ.le ρ') {u:Value}
  (cQ: ∀d,o.dst=some d->Zb ρ' ((f (k+1)).tmp d) u) {S':Nat->Bool} (hS: ∀i,S' i=(S i||i == BG ops k)):
  (∀k' x d,k'<ops.size->ops[BG ops k']? =some x->S' (BG ops k')=true->x.dst=some d->Zb ρ' ((f (k'+1)).tmp d) ((a.put o.dst u).tmps.getD d undef))/\
  (∀t,(∀i x,ops[i]? =some x->S' i=true->x.dst≠some t)->Zb ρ' (st.tmp t) ((a.put o.dst u).tmps.getD t undef)):=by
 have other: ∀t,o.dst≠some t->(a.put o.dst u).tmps.getD t undef=a.tmps.getD t undef:=fun t ht=>by
  cases hd:o.dst with
  | none=>rfl
  | some d=>simp_all [Act.put]
 obtain ⟨_,ho',s⟩:=g.step' hk;rw [ho] at ho';obtain rfl:=Ac ho';refine ⟨fun k' x d hk' hx hs hd=> ?_,fun t hno=> ?_⟩
 .by_cases hod:o.dst=some d
  .have e:=M9 g ho hx hod hd;have hkk:k'=k:=by
    rcases A3 k' k with h | h | h
    .rcases Ky (ops:=ops) h hk with ⟨h1,h3⟩ | ⟨_,h3⟩;all_goals grind
    .exact h
    .rcases Ky (ops:=ops) h hk' with ⟨h1,h3⟩ | ⟨_,h3⟩;all_goals grind
   subst hkk;have hlt:d<a.tmps.size:=by rw [I.tsz];exact s.slot d hod
   simp_all [Act.put]
  .rw [other d hod];have hne:BG ops k'≠BG ops k:=fun e=>by
    grind
   have hs':S (BG ops k')=true:=by
    grind
   exact (I.done k' x d hk' hx hs' hd).mono hle
 .have hod:o.dst≠some t:=hno _ o ho (by rw [hS];simp);rw [other t hod];exact (I.undone t fun i x hx hs=>hno i x hx (by grind)).mono hle
theorem Cy.closes (I:Cy z P D ops cx st f ρ0 w0 S p ρ a w) {i:Nat} {o:Oper} (ho:ops[i]? =some o) (cK:Do S o) {S':Nat->Bool} (hS: ∀j,S' j=(S j||j == i)):Dk ops S':=by
 intro j x hx hs e he hb;rw [hS] at hs ⊢;by_cases hj:j=i
 .subst hj;rw [ho] at hx;obtain rfl:=Ac hx;rw [cK e he hb];rfl
 .have:S j=true:=by grind
  rw [I.closed j x hx this e he hb];rfl
theorem YA {i:Nat} {l:Bool} {o:Oper} {ev:Operand->BA} {mem:BH} {y:CO} (h:Yp z o.op=.read):lateF z ops (i,l,o) ev mem y=false:=by
 have hk:Ca o.op ev mem=none:=by
  unfold Ca;split
  .rename_i e;rw [e] at h;cases h
  .rfl
 unfold lateF
 grind
theorem YB {i j b:Nat} {l:Bool} {x:Oper} {ev:Operand->BA} {mem:BH} {wr:Option Nat} (h:lateF z ops (i,l,x) ev mem (j,some b,wr)=true):Ja z ops j i=true/\Ca x.op ev mem=some b:=by
 unfold lateF at h;split at h
 .rename_i j' b' e;simp only [Aa,Ab] at e;obtain ⟨rfl,rfl,rfl⟩:=e;split at h;all_goals simp_all
 .cases h
theorem Cy.between (g:CC Sp z P ops cx st f) (I:Cy z P D ops cx st f ρ0 w0 S p ρ a w) {k:Nat} {o:Oper} (hk:k<ops.size) (ho:ops[BG ops k]? =some o) (hns:S (BG ops k)=false) (cK:Do S o) (eE:Yp z o.op=.read) {b:Nat} (hb:Cc o.op (f k).eval =some b):
  (∀q x,p<=q->q<k->ops[BG ops q]? =some x->GP z x\/Yp z x.op=.read \/(Yp z x.op=.call /\Qo ops (BG ops q)=true/\Cf Sp x.op (f q).eval ≠some b)\/(Yp z x.op=.chain /\CW x.op (f q).eval ≠some b)\/Cj z x)/\
  (∀q x,k<=q->q<p->ops[BG ops q]? =some x->GP z x\/Yp z x.op=.read \/(Yp z x.op=.call /\Qo ops (BG ops q)=true/\Cf Sp x.op (f q).eval ≠some b)\/(Yp z x.op=.chain /\CW x.op (f q).eval ≠some b)\/Cj z x\/(Uz z x/\Ja z ops (BG ops k) (BG ops q)=true/\Ca x.op (f q).eval (f q).mem =some b)):=by
 have nal:isAlloc ops (BG ops k)=false:=by
  grind [Wh]
 constructor
 .intro q x h1 h2 hx;rcases GM z x with h | h | h | h
  .exact .inl h
  .grind
  .grind
  .have hqs:S (BG ops q)=false:=by
    cases e:S (BG ops q) with
    | false=>rfl
    | true=>have:=(I.chain q x (by omega) hx h).1 e;omega
   have hlt:BG ops q<BG ops k:=by
    rcases Ky (ops:=ops) h2 hk with ⟨h3,_⟩ | ⟨_,h3⟩
    .have:=I.past q x (by omega) hx (.inl ((Wh (z:=z) hx).1 h3));omega
    .exact h3
   rcases g.chk.pair _ _ _ _ hlt hx ho with hf | ⟨_,hkd,hl,_⟩
   .have:=hf S I.closed cK
    grind
   .have no:Cf Sp x.op (f q).eval ≠some b:=fun hw=>by
     have:=(g.foot' h2 hk ho hx).resolve_right (fun hl=>by
      rw [YA eE] at hl;cases hl) (.inl (by rw [hb,hw];exact Nat.beq_refl b))
     unfold ordered at this;simp only [A9] at this;rcases this with this | this
     .have:=(g.chk.bits _ _ hx _ this).1;omega
     .have:=(g.chk.bits _ _ ho _ this).2 S I.closed cK
      grind
    rcases h with h | h;all_goals simp_all [QS,Mb]
 .intro q x h1 h2 hx;have hp:=I.ple;rcases GM z x with h | h | h | h
  .exact .inl h
  .grind
  .grind
  .have hqs:S (BG ops q)=true:=(I.chain q x (by omega) hx h).2 h2;have hne:q≠k:=fun e=>by grind
   have hlt:BG ops k<BG ops q:=by
    rcases Ky (ops:=ops) (k1:=k) (k2:=q) (by omega) (by omega) with ⟨h3,_⟩ | ⟨_,h3⟩;all_goals grind
   rcases g.chk.pair _ _ _ _ hlt ho hx with hf | ⟨_,hkd,_,hl⟩
   .have:=hf S I.closed fun e he hb=>I.closed _ _ hx hqs e he hb
    grind
   .rcases g.foot' (q:=k) (k:=q) (by omega) (by omega) hx ho with hfo | hla
    rotate_left
    .grind [YB]
    have no:Cf Sp x.op (f q).eval ≠some b:=fun hw=>by
     have:=hfo (.inr (by rw [hb,hw];exact Nat.beq_refl b));unfold ordered at this;simp only [A9] at this;rcases this with this | this
     .have:=(g.chk.bits _ _ ho _ this).1;omega
     .have:=(g.chk.bits _ _ hx _ this).2 S I.closed fun e he hb=>I.closed _ _ hx hqs e he hb
      grind
    rcases h with h | h;all_goals simp_all [QS,Mb]
theorem Cy.next_chain (g:CC Sp z P ops cx st f) (I:Cy z P D ops cx st f ρ0 w0 S p ρ a w) {k:Nat} {o:Oper} (hk:k<ops.size) (ho:ops[BG ops k]? =some o) (hns:S (BG ops k)=false) (cK:Do S o) (hch:Uz z o):
  p<=k/\(∀q x,q<ops.size->ops[BG ops q]? =some x->Uz z x->(S (BG ops q)=true↔q<k)):=by
 have nal:isAlloc ops (BG ops k)=false:=by
  cases e:isAlloc ops (BG ops k) with
  | false=>rfl
  | true=>have:=(Wh (z:=z) ho).1 e;rcases hch with h | h <;> rw [h] at this <;> cases this
 have key: ∀q x,q<ops.size->ops[BG ops q]? =some x->Uz z x->(S (BG ops q)=true↔q<k):=by
  intro q x hq hx hxc;have nalx:isAlloc ops (BG ops q)=false:=by
   cases e:isAlloc ops (BG ops q) with
   | false=>rfl
   | true=>have:=(Wh (z:=z) hx).1 e;rcases hxc with h | h <;> rw [h] at this <;> cases this
  have nok: ∀(x y:Oper),Uz z x->Uz z y->M0 (Yp z x.op) (Yp z y.op)=false:=by
   intro x y hx hy;rcases hx with h | h <;> rcases hy with h' | h' <;> rw [h,h'] <;> rfl
  constructor
  .intro hs;rcases A3 q k with h | h | h
   .exact h
   .grind
   .exfalso;have hlt:BG ops k<BG ops q:=by
     rcases Ky (ops:=ops) h hq with ⟨h3,_⟩ | ⟨_,h3⟩;all_goals grind
    rcases g.chk.pair _ _ _ _ hlt ho hx with hf | ⟨_,hkd,_⟩
    .have:=hf S I.closed fun e he hb=>I.closed _ _ hx hs e he hb
     grind
    grind
  .intro h;have hlt:BG ops q<BG ops k:=by
    rcases Ky (ops:=ops) h hk with ⟨h3,_⟩ | ⟨_,h3⟩;all_goals grind
   rcases g.chk.pair _ _ _ _ hlt hx ho with hf | ⟨_,hkd,_⟩
   .exact hf S I.closed cK
   grind
 refine ⟨?_,key⟩;rcases AS k p with h | h
 .have:=(I.chain k o hk ho hch).2 h
  grind
 .exact h
end
end
section
variable {Sp:BC} {z:Nat} {P:Program} {D:List Deferred} {ops:Array Oper} {cx:BK} {st:St} {f:Nat->St}
theorem YZ {ρ ρ':BD} {floor:Nat} {m m':BH} {n n':Nat} {w w':World} (h:BF ρ m n w) (h':BF ρ' m' n' w') (e:Ev ρ ρ' floor m n m' n' w w') {b:Nat} {ab:BE} (hm:Zs m b=some ab) (hb: ∀l,ρ b=some l->Xu ρ w' ab l):
  BF ρ' (Yi .leaf b (some ab)) n' w':=by
 have hbn:b<n:=by
  rcases AS b n with g | g
  .exact g
  .rw [h.bd b g] at hm;cases hm
 have hn:=e.nxt;have hg: ∀c,(Zs (Yi .leaf b (some ab)) c).isSome =true->c=b:=fun c hc=>by
  by_cases hcb:c=b
  .exact hcb
  .rw [Zx _ _ hcb] at hc;cases hc
 refine ⟨h'.dom,fun c c' l l' _ _ _ hs hs'=>(hg c hs).trans (hg c' hs').symm,fun c l a hc ha=> ?_,h'.old,fun c l hc hs=> ?_,h'.real,fun c hc=> ?_,h'.ldom⟩
 .obtain rfl:=hg c (by rw [ha];rfl);rw [Zd] at ha;obtain rfl:=Ac ha;rw [e.new c hbn] at hc;have q:=hb l hc;exact q.world e.ext rfl
 .obtain rfl:=hg c hs;rw [e.new c hbn] at hc;rw [e.still _ (h.real c l hc)];exact h.sep c l hc (by rw [hm];rfl)
 .rw [Zx _ _ (by omega)];rfl
theorem w1a (g:CC Sp z P ops cx st f) {ρ0:BD} {w0:World} (hout: ∀i,cx.n<=i->T.get .undef st.env i=.undef) (hbd: ∀b,st.next<=b->Zs st.mem b=none): ∀(fuel:Nat) (listed:Array Bool) (p:Nat) (ρ:BD) (a:Act) (w:World),listed.size=ops.size->
  (List.range ops.size).countP (fun i=> !listed.getD i false)=fuel->Cy z P D ops cx st f ρ0 w0 (fun i=>listed.getD i false) p ρ a w->wpAny P .any ops (E7 D ρ0 cx st (f ops.size) w0) fuel listed a w:=by
 have someReady: ∀listed:Array Bool,listed.size=ops.size-> ∀i,i<ops.size->listed.getD i false=false-> ∃j,j∈Region.ready .any ops listed:=by
  intro listed hsz i
  induction i using Nat.strongRecOn with
  | _ i ih=>
   intro hi hl;by_cases h: ∃e∈(ops[i]).after.toList,Region.binds .any e=true/\listed.getD e.on false=false
   .obtain ⟨e,he,hb,hf⟩:=h;have hlt:=g.chk.ord i ops[i] (by simp [hi]) e he hb
    grind
   .refine ⟨i,mem_ready.2 ⟨?_,ops[i],by simp [hi],fun e he hb=> ?_⟩⟩;all_goals grind
 intro fuel
 induction fuel with
 | zero=>
  intro listed p ρ a w hsz hcnt I;have dC: ∀i,i<ops.size->listed.getD i false=true:=by simp_all
  refine ⟨?_,rfl,I.defers,ρ,?_,?_,?_⟩
  .simp_all [Region.ready]
  .refine ⟨I.tsz,fun t=> ?_,fun i hi=> ?_⟩
   .by_cases hw: ∃(i:Nat) (x:Oper),ops[i]? =some x/\x.dst=some t
    .obtain ⟨i,x,hx,hd⟩:=hw;have hil:i<ops.size:=(As.1 hx).1;obtain ⟨k,hk,rfl⟩:=NM hil;have hst:(f ops.size).tmp t=(f (k+1)).tmp t:=g.slot_stays (by omega) (Ak _) fun q y h1 h2 hy hyd=>by
      have e:BG ops k=BG ops q:=M9 g hx hy hd hyd;rcases Ky (ops:=ops) (k1:=k) (k2:=q) (by omega) h2 with ⟨h3,h4⟩ | ⟨_,h4⟩;all_goals grind
     show Zb ρ ((f ops.size).tmp t) _;rw [hst];exact I.done k x t hk hx (dC _ hil) hd
    .have hst:(f ops.size).tmp t=(f 0).tmp t:=g.slot_stays (AD _) (Ak _) fun q y _ h2 hy hyd=>hw ⟨_,y,hy,hyd⟩;show Zb ρ ((f ops.size).tmp t) _;rw [hst,g.f0];exact I.undone t fun i x hx _ hd=>hw ⟨i,x,hx,hd⟩
   .have hst:(f ops.size).tmp i=(f 0).tmp i:=g.slot_stays (AD _) (Ak _) fun q y _ h2 hy hyd=>by obtain ⟨o,ho,s⟩:=g.step' h2;rw [hy] at ho;obtain rfl:=Ac ho;exact absurd hi (Nat.not_le_of_lt (s.slot i hyd))
    show (f ops.size).tmp i=_;rw [hst,g.f0];exact hout i hi
  .obtain ⟨e1,e2⟩:=g.mem_stays I.ple (Ak _) fun k o h1 h2 ho=>by
    rcases GM z o with h | h | h | h
    .exact .inl h
    .exact .inr h
    .have:=I.past k o h2 ho h;omega
    .have:=(I.chain k o h2 ho h).1 (dC _ (L6 h2));omega
   rw [e1,e2];exact I.rel
  .obtain ⟨e1,e2⟩:=g.mem_stays I.ple (Ak _) fun k o h1 h2 ho=>by
    rcases GM z o with h | h | h | h
    .exact .inl h
    .exact .inr h
    .have:=I.past k o h2 ho h;omega
    .have:=(I.chain k o h2 ho h).1 (dC _ (L6 h2));omega
   rw [e1,e2];exact I.ev
 | succ fuel ih=>
  intro listed p ρ a w hsz hcnt I;refine ⟨fun hr=> ?_,fun i hi=> ?_⟩
  .exfalso;have: ∃i,i<ops.size/\listed.getD i false=false:=by
    have hpos:0<(List.range ops.size).countP (fun i=> !listed.getD i false):=(by omega);obtain ⟨i,hi,h⟩:=List.countP_pos_iff.1 hpos
    grind
   grind
  .obtain ⟨hun,o,ho,hafter⟩:=mem_ready.1 hi;have hil:i<ops.size:=(As.1 ho).1;obtain ⟨k,hk,rfl⟩:=NM hil;have hil2:BG ops k<listed.size:=by omega
   have hns:listed.getD (BG ops k) false=false:=by grind
   have cK:Do (fun i=>listed.getD i false) o:=fun e he hb=>hafter e (Array.mem_toList_iff.1 he) hb;have hS: ∀j,(listed.setIfInBounds (BG ops k) true).getD j false=(listed.getD j false||j == BG ops k):=by
    intro j;by_cases hj:j=BG ops k
    .simp_all
    .have:(j == BG ops k)=false:=(by grind);simp [this,Array.getElem?_setIfInBounds_ne (Ne.symm hj)]
   have hcnt':(List.range ops.size).countP (fun i=> !(listed.setIfInBounds (BG ops k) true).getD i false)=fuel:=by
    have:=Kr (fun i=> !listed.getD i false) (fun i=> !(listed.setIfInBounds (BG ops k) true).getD i false) (BG ops k) ops.size (fun j hj=>by
     grind) (by grind) (by rw [hS];simp) hil
    omega
   have eB:(listed.setIfInBounds (BG ops k) true).size =ops.size:=by grind
   have dR:=I.closes ho cK hS;have undone: ∀{j:Nat},(listed.setIfInBounds (BG ops k) true).getD j false=false->listed.getD j false=false:=fun {j} h=>by
    grind
   have calms: ∀(k1 q:Nat) (o1 x:Oper),k1<q->q<p->q<ops.size->ops[BG ops k1]? =some o1->ops[BG ops q]? =some x->(listed.setIfInBounds (BG ops k) true).getD (BG ops k1) false=false->Uz z x->Ja z ops (BG ops k1) (BG ops q)=true->L9 z o.op=true:=fun k1 q o1 x c1 c2 c3 c4 c5 c6 c7 c8=>by
    have hq:=(I.chain q x c3 c5 c7).2 c2;have h8:=Az.1 c8 (BG ops k) (AM.2 hil);rw [ho] at h8;simp only [A9] at h8;rcases h8 with h8 | h8 | h8 | h8
    .exact h8
    .simp_all
    .have:=(g.chk.bits _ _ c5 _ h8).2 _ I.closed fun e he hb=>I.closed _ _ c5 hq e he hb
     grind
    .have:=(g.chk.bits _ _ ho _ h8).2 _ I.closed cK
     grind
   have notcalm: ∀{α:Prop},Yp z o.op≠ .pure ->Yp z o.op≠ .read ->L9 z o.op=true->α:=fun h1 h2 h=>by
    grind [L9]
   obtain ⟨o',ho',s⟩:=g.step' hk;rw [ho] at ho';obtain rfl:=Ac ho';have hops:=I.operands g hk ho hns cK;have hguard: ∀d,Wm ops o=some d->Zb ρ ((f k).tmp d) (a.tmps.getD d undef):=fun d hd=>I.looks g hk ho hns cK (UY hd);have hob:=g.ob (k+1) (by omega);have finish: ∀{q:Prop},(if Region.wanted o (yielded ops a.tmps) then o.wp P a w (wpAny P .any ops (E7 D ρ0 cx st (f ops.size) w0) fuel (listed.setIfInBounds (BG ops k) true)) (E7 D ρ0 cx st (f ops.size) w0) else wpAny P .any ops (E7 D ρ0 cx st (f ops.size) w0) fuel (listed.setIfInBounds (BG ops k) true) (a.put o.dst undef) w)->
     wpOp P ops (E7 D ρ0 cx st (f ops.size) w0) (BG ops k) (wpAny P .any ops (E7 D ρ0 cx st (f ops.size) w0) fuel (listed.setIfInBounds (BG ops k) true)) a w:=by
    grind [wpOp]
   have calm:(Yp z o.op=.pure \/Yp z o.op=.read)->wpOp P ops (E7 D ρ0 cx st (f ops.size) w0) (BG ops k) (wpAny P .any ops (E7 D ρ0 cx st (f ops.size) w0) fuel (listed.setIfInBounds (BG ops k) true)) a w:=by
    intro hkd;obtain ⟨memC,hrelC,hagC⟩: ∃memC,BF ρ memC (f p).next w/\ ∀t y b ab,o.op=.load t y->Cc o.op (f k).eval =some b->Zs (f k).mem b=some ab->Zs memC b=some ab:=by
     by_cases hl: ∃t y b ab q x,o.op=.load t y/\Cc o.op (f k).eval =some b/\Zs (f k).mem b=some ab/\k<=q/\q<p/\ops[BG ops q]? =some x/\Uz z x/\Ja z ops (BG ops k) (BG ops q)=true/\Ca x.op (f q).eval (f q).mem =some b
     .obtain ⟨t,y,b,ab,q0,x0,hop,hrd,hm,l1,l2,l3,l4,l5,l6⟩:=hl;have eE:Yp z o.op=.read :=by rw [hop];rfl
      obtain ⟨_,b2⟩:=I.between g hk ho hns cK eE hrd;have hbn:b<(f k).next :=by
       rcases AS b (f k).next with h | h
       .exact h
       .rw [g.bd hbd (by omega) b h] at hm;cases hm
      have first: ∀n q x,q<=n->k<=q->q<p->ops[BG ops q]? =some x->Uz z x->Ja z ops (BG ops k) (BG ops q)=true->Ca x.op (f q).eval (f q).mem =some b->
        ∃q x,k<=q/\q<p/\ops[BG ops q]? =some x/\Uz z x/\Ja z ops (BG ops k) (BG ops q)=true/\Ca x.op (f q).eval (f q).mem =some b/\ ∀q' x',k<=q'->q'<q->ops[BG ops q']? =some x'-> ¬(Uz z x'/\Ja z ops (BG ops k) (BG ops q')=true/\Ca x'.op (f q').eval (f q').mem =some b):=by
       intro n
       induction n with
       | zero=>grind
       | succ n ih=>
        intro q x h0 h1 h2 h3 h4 h5 h6;by_cases he: ∃q' x',k<=q'/\q'<q/\ops[BG ops q']? =some x'/\Uz z x'/\Ja z ops (BG ops k) (BG ops q')=true/\Ca x'.op (f q').eval (f q').mem =some b
        .obtain ⟨q',x',e1,e2,e3,e4,e5,e6⟩:=he;exact ih q' x' (by omega) e1 (by omega) e3 e4 e5 e6
        .exact ⟨q,x,h1,h2,h3,h4,h5,h6,fun q' x' e1 e2 e3 e4=>he ⟨q',x',e1,e2,e3,e4⟩⟩
      obtain ⟨q,x,h1,h2,h3,h4,h5,h6,h7⟩:=first q0 q0 x0 (Ak _) l1 l2 l3 l4 l5 l6
      have hple:=I.ple;have hne:k≠q:=fun e=>by
       rw [<-e,ho] at h3;obtain rfl:=Ac h3;rcases h4 with h | h <;> rw [eE] at h <;> cases h
      have hst:=g.blk_stays (x:=b) (a:=k) (b:=q) h1 (by omega) hbn fun q' x' e1 e2 e3=>by
       rcases b2 q' x' e1 (by omega) e3 with d | d | d | d | d | d;all_goals grind
      refine ⟨_,I.late k q o x b ab (by omega) h2 (by omega) ho h3 hns h4 h5 h6 (by grind),fun t' y' b' ab' hop' hrd' hm'=> ?_⟩
      grind [Zd]
     .refine ⟨(f p).mem,I.rel,fun t y b ab hop hrd hm=> ?_⟩;have eE:Yp z o.op=.read :=by rw [hop];rfl
      obtain ⟨b1,b2⟩:=I.between g hk ho hns cK eE hrd;have b2: ∀q x,k<=q->q<p->ops[BG ops q]? =some x->GP z x\/Yp z x.op=.read \/(Yp z x.op=.call /\Qo ops (BG ops q)=true/\Cf Sp x.op (f q).eval ≠some b)\/(Yp z x.op=.chain /\CW x.op (f q).eval ≠some b)\/Cj z x:=fun q x e1 e2 e3=>by
       rcases b2 q x e1 e2 e3 with d | d | d | d | d | d;all_goals grind
      have hρ: ∃l,ρ b=some l:=by
       have:=hops y (by rw [hop];simp [Op.operands]);rw [hop] at hrd;simp only [Cc] at hrd;generalize a.eval y=uy at this;split at hrd
       .rename_i hy;rw [hy] at this;obtain rfl:=Ac hrd;cases this with
        | ptr _ _ l h=>grind
       .rename_i hy;rw [hy] at this;obtain rfl:=Ac hrd;cases this with
        | epa _ _ _ _ l h=>grind
       .cases hrd
      obtain ⟨l,hl⟩:=hρ;rcases Nat.le_total p k with hpk | hpk
      .have:=g.blk_stays (x:=b) hpk (by omega) (I.rel.dom b l hl) b1
       grind
      .have hbn:b<(f k).next :=by
        rcases AS b (f k).next with h | h
        .exact h
        .rw [g.bd hbd (by omega) b h] at hm;cases hm
       have:=g.blk_stays (x:=b) hpk I.ple hbn b2
       grind
    refine finish (q:=True) (s.calm hob hkd ρ a w (f k).eval memC (f p).next I.tsz (fun _ _=>rfl) hguard hops hrelC hagC _ _ fun u cQ=> ?_)
    .obtain ⟨d1,d2⟩:=I.slots g hk ho hns (BD.le_refl ρ) cQ hS;refine ih _ p ρ _ w eB hcnt' ⟨dR,by rw [Act.put_defers'];exact I.defers,by cases h:o.dst <;> simp [Act.put,I.tsz],d1,d2,I.ple,I.past,fun q x hq hx hc=> ?_,I.rel,I.ev,fun k1 q o1 x b ab c1 c2 c3 c4 c5 c6=>I.late k1 q o1 x b ab c1 c2 c3 c4 c5 (undone c6),fun q x hq hx hnw hs=> ?_⟩
     .have hne:BG ops q≠BG ops k:=fun e=>by
       rw [e,ho] at hx;obtain rfl:=Ac hx;rcases hc with h | h <;> rcases hkd with h' | h' <;> rw [h] at h' <;> cases h'
      rw [hS]
      simpa [hne] using I.chain q x hq hx hc
     .rw [hS] at hs;simp only [Bj] at hs;exact I.allocs q x hq hx hnw hs.1
   rcases GM z o with (hkd | hkd) | hkd | hkd | hkd
   .grind
   ·-- a slice that is written out, as data
    refine finish (q:=True) (s.lit hob hkd ρ a w (f k).eval (f p).mem (f p).next I.tsz (fun _ _=>rfl) hguard hops I.rel _ _ fun ρ' u w' cQ cV cM hev=> ?_);obtain ⟨d1,d2⟩:=I.slots g hk ho hns (hev cx.floor (f p).mem).ext cQ hS;refine ih _ p ρ' _ w' eB hcnt' ⟨dR,by rw [Act.put_defers'];exact I.defers,by cases h:o.dst <;> simp [Act.put,I.tsz],d1,d2,I.ple,I.past,fun q x hq hx hc=> ?_,cV,I.ev.trans (hev _ _),fun k1 q o1 x b ab c1 c2 c3 c4 c5 c6 c7 c8=>notcalm (by grind) (by grind) (calms k1 q o1 x c1 c2 c3 c4 c5 c6 c7 c8),fun q x hq hx hnw hs=> ?_⟩
    .have hne:BG ops q≠BG ops k:=fun e=>by
      rw [e,ho] at hx;obtain rfl:=Ac hx;rcases hc with h | h <;> rw [h] at hkd <;> cases hkd
     rw [hS]
     simpa [hne] using I.chain q x hq hx hc
    .rw [hS] at hs;simp only [Bj] at hs;obtain ⟨m1,m2,m3,m4⟩:=I.allocs q x hq hx hnw hs.1
     grind
   .grind
   ·-- a block is made
    have hgn:=g.chk.guard _ o ho hkd;obtain ⟨cells,ty,hm1,hn1,hborn⟩:=s.fresh hob hkd hgn;obtain ⟨l1,l2,l3,l4⟩:=I.allocs k o hk ho hkd hns;rw [hm1,Zd] at l4;obtain ⟨u,vs,el,hel,hvs,cE,cQ⟩:=hborn ρ a w (f k).eval (fun _ _=>rfl) hops;have cV:=I.rel.birth l2 l3 l4 el hvs hel;refine finish (q:=True) ?_;rw [AB (by unfold Region.wanted;rw [hgn])];unfold Oper.wp;rw [cE];have hle:ρ.le (Xr ρ (f k).next ⟨w.heap.size,0,cells.length,vs.size⟩):=Vt l3;obtain ⟨d1,d2⟩:=I.slots g hk ho hns hle (u:=u) (fun d hd=>cQ _ (by simp [Xr]) d hd) hS;have ev':Ev ρ0 (Xr ρ (f k).next ⟨w.heap.size,0,cells.length,vs.size⟩) cx.floor st.mem st.next (f p).mem (f p).next w0 {w with heap:=w.heap.push (.cells vs el)}:=by
     have e:=I.ev;refine ⟨BD.le_trans e.ext hle,fun b hb=> ?_,e.nxt,e.unborn,fun q ob hq hf=> ?_,fun b l hb hl=> ?_,?_,e.os,e.tape,e.output,e.still⟩
     .rw [<-e.new b hb];rw [Ww,At (by omega)]
     .have:=e.frame q ob hq hf
      grind
     .rw [Ww] at hl;by_cases hbk:b=(f k).next
      .rw [AB hbk] at hl;obtain rfl:=Ac hl;exact .inl e.size
      .rw [At hbk] at hl;exact e.fresh b l hb hl
     .have:=e.size;simp;omega
    refine ih _ p _ _ _ eB hcnt' ⟨dR,by rw [Act.put_defers'];exact I.defers,by cases h:o.dst <;> simp [Act.put,I.tsz],d1,d2,I.ple,I.past,fun q x hq hx hc=> ?_,cV,ev',fun k1 q o1 x b ab c1 c2 c3 c4 c5 c6 c7 c8=>notcalm (by rcases hkd with h | h <;> rw [h] <;> exact fun h=>by cases h) (by rcases hkd with h | h <;> rw [h] <;> exact fun h=>by cases h) (calms k1 q o1 x c1 c2 c3 c4 c5 c6 c7 c8),fun q x hq hx hnw hs=> ?_⟩
    .have hne:BG ops q≠BG ops k:=fun e=>by
      rw [e,ho] at hx;obtain rfl:=Ac hx;rcases hc with h | h <;> rcases hkd with h' | h' <;> rw [h] at h' <;> cases h'
     rw [hS]
     simpa [hne] using I.chain q x hq hx hc
    .rw [hS] at hs;simp only [Bj] at hs;obtain ⟨m1,m2,m3,m4⟩:=I.allocs q x hq hx hnw hs.1;refine ⟨m1,m2,?_,m4⟩;have hne:(f q).next ≠(f k).next :=by
      have hqk:q≠k:=fun e=>by grind
      have up: ∀q x,q<ops.size->ops[BG ops q]? =some x->Cj z x->(f (q+1)).next =(f q).next +1:=by intro q x hq hx hn;obtain ⟨x',hx',s'⟩:=g.step' hq;rw [hx] at hx';obtain rfl:=Ac hx';obtain ⟨_,_,_,h6,_⟩:=s'.fresh (g.ob _ (by omega)) hn (g.chk.guard _ x hx hn);exact h6
      rcases A3 q k with h | h | h
      .have h1:=up q x hq hx hnw;have h2:=g.next_le (a:=q+1) (b:=k) (by omega) (by omega);omega
      .grind
      .have h1:=up k o hk ho hkd;have h2:=g.next_le (a:=k+1) (b:=q) (by omega) (by omega);omega
     grind [Ww]
   ·-- the next one that may write
    obtain ⟨hpk,hch⟩:=I.next_chain g hk ho hns cK hkd;obtain ⟨e1,e2⟩:=g.mem_stays hpk (by omega) fun q x h1 h2 hx=>by
     rcases GM z x with h | h | h | h
     .exact .inl h
     .exact .inr h
     .have:=I.past q x (by omega) hx h;omega
     .have:=(I.chain q x (by omega) hx h).1 ((hch q x (by omega) hx h).2 h2);omega
    have cB:BF ρ (f k).mem (f k).next w:=by rw [e1,e2];exact I.rel
    refine finish (q:=True) (s.does hob hkd ρ a w (f k).eval I.tsz (fun _ _=>rfl) hguard hops cB _ _ fun ρ' u w' cQ cV hev hlate=> ?_);obtain ⟨d1,d2⟩:=I.slots g hk ho hns hev.ext cQ hS;have hev0:=hev;rw [e1,e2] at hev;refine ih _ (k+1) ρ' _ w' eB hcnt' ⟨dR,by rw [Act.put_defers'];exact I.defers,by cases h:o.dst <;> simp [Act.put,I.tsz],d1,d2,by omega,fun q x hq hx hc=>by have:=I.past q x hq hx hc;omega,fun q x hq hx hc=> ?_,cV,I.ev.trans hev,fun k1 q o1 x b ab c1 c2 c3 c4 c5 c6 c7 c8 c9 c10=> ?late,fun q x hq hx hnw hs=> ?_⟩
    case late=>
     by_cases hqk:q=k
     .subst hqk;rw [ho] at c5;obtain rfl:=Ac c5;exact YZ cB cV hev0 c10 fun l hl=>hlate b ab l c9 c10 hl
     .have hqs:=(hch q x c3 c5 c7).2 (by omega);have hqp:=(I.chain q x c3 c5 c7).1 hqs;exact notcalm (by rcases hkd with h | h <;> rw [h] <;> exact fun h=>by cases h) (by rcases hkd with h | h <;> rw [h] <;> exact fun h=>by cases h) (calms k1 q o1 x c1 hqp c3 c4 c5 c6 c7 c8)
    .rw [hS];by_cases hqk:q=k
     .grind
     .have hne:BG ops q≠BG ops k:=fun e=>by
       rcases AS q k with h | h
       .grind
       .rcases Ky (ops:=ops) (k1:=k) (k2:=q) (by omega) hq with ⟨h3,h4⟩ | ⟨_,h4⟩;all_goals grind
      have:=hch q x hq hx hc;simp only [beq_eq_false_iff_ne.2 hne,Bool.or_false];rw [this];omega
    .rw [hS] at hs;simp only [Bj] at hs;obtain ⟨m1,m2,m3,m4⟩:=I.allocs q x hq hx hnw hs.1;obtain ⟨x',hx',s'⟩:=g.step' hq;rw [hx] at hx';obtain rfl:=Ac hx';obtain ⟨cells,ty,hm1,_,_⟩:=s'.fresh (g.ob _ (by omega)) hnw (g.chk.guard _ x hx hnw);have e0:Zs (f (q+1)).mem (f q).next =some ⟨cells,ty,none⟩:=by rw [hm1,Zd]
     rw [e0] at m4;refine ⟨m1,AJ m2 hev.nxt,by rw [hev.new _ m2];exact m3,by rw [e0];exact hev.unborn _ m2 m3 _ _ m4⟩
theorem WO (g:CC Sp z P ops cx st f) {ρ:BD} {a:Act} {w:World} (hd:a.defers=D) (cF:Xm ρ st.env cx.n a.tmps) (cB:BF ρ st.mem st.next w):
  ∃p,Cy z P D ops cx st f ρ w (fun i=>(Array.replicate ops.size false).getD i false) p ρ a w:=by
 have hf: ∀i,(Array.replicate ops.size false).getD i false=false:=fun i=>by
  by_cases h:i<ops.size;all_goals simp_all
 have hA: ∃p,p<=ops.size/\(∀k o,k<ops.size->ops[BG ops k]? =some o->Cj z o->k<p)/\(p=0\/ ∃o,ops[BG ops (p - 1)]? =some o/\Cj z o):=by
  have: ∀n,n<=ops.size-> ∃p,p<=n/\(∀k o,k<n->ops[BG ops k]? =some o->Cj z o->k<p)/\(p=0\/ ∃o,ops[BG ops (p - 1)]? =some o/\Cj z o):=by
   intro n
   induction n with
   | zero=>grind
   | succ n ih=>
    intro hn;obtain ⟨p,hp,hk,hlast⟩:=ih (by omega);have hlt:=L6 (ops:=ops) (k:=n) (by omega);have hx:ops[BG ops n]? =some ops[BG ops n]:=(by simp [hlt]);by_cases e:Cj z ops[BG ops n]
    .exact ⟨n+1,Ak _,fun k o h _ _=>h,.inr ⟨_,hx,e⟩⟩
    .refine ⟨p,by omega,fun k o h ho hnw=> ?_,hlast⟩;by_cases hkn:k=n
     .grind
     .exact hk k o (by omega) ho hnw
  simp_all
 obtain ⟨p,hp,hpk,hlast⟩:=hA;have noch: ∀k o,k<p->ops[BG ops k]? =some o-> ¬Uz z o:=by
  intro k o hk ho hc;rcases hlast with h0 | ⟨x,hx,hnw⟩
  .omega
  .by_cases hkp:k=p - 1
   .rw [<-hkp,ho] at hx;obtain rfl:=Ac hx;rcases hc with h | h <;> rcases hnw with h' | h' <;> rw [h] at h' <;> cases h'
   .have nal:isAlloc ops (BG ops k)=false:=by
     cases e:isAlloc ops (BG ops k) with
     | false=>rfl
     | true=>
      have:=(Wh (z:=z) ho).1 e;rcases hc with h | h <;> rw [h] at this <;> cases this
    rcases Ky (ops:=ops) (k1:=k) (k2:=p - 1) (by omega) (by omega) with ⟨h3,_⟩ | ⟨h3,h4⟩
    .grind
    .rw [nal] at h3;rcases hnw with hnw | hnw
     .grind [Wh]
     .exact g.chk.birth _ _ _ _ h4 ho hx hnw hc
 have stepAt: ∀k,k<p->((f (k+1)).mem =(f k).mem /\(f (k+1)).next =(f k).next)\/ ∃cells ty,(f (k+1)).mem =Yi (f k).mem (f k).next (some ⟨cells,ty,none⟩)/\(f (k+1)).next =(f k).next +1:=by
  intro k hk;obtain ⟨o,ho,s⟩:=g.step' (k:=k) (by omega);rcases GM z o with h | h | h | h
  .exact .inl (s.stay (by rcases h with h | h <;> simp [h]))
  .exact .inl (s.stay (.inr (.inl h)))
  .obtain ⟨cells,ty,h1,h2,_⟩:=s.fresh (g.ob _ (by omega)) h (g.chk.guard _ o ho h)
   grind
  grind
 have start: ∀k,k<=p->BF ρ (f k).mem (f k).next w/\Ev ρ ρ cx.floor st.mem st.next (f k).mem (f k).next w w:=by
  intro k
  induction k with
  | zero=>intro _;rw [g.f0];exact ⟨cB,Ev.refl _ _ _ _ _ cB.dom⟩
  | succ k ih=>
   intro hk;obtain ⟨hr,he⟩:=ih (by omega);rcases stepAt k (by omega) with ⟨h3,h4⟩ | ⟨cells,ty,h3,h4⟩
   .grind
   .rw [h3,h4];refine ⟨hr.unborn _,he.trans ⟨BD.le_refl _,fun _ _=>rfl,Bt _,fun b hb _ cs ty hm=>by grind [Zx],fun _ _ h _=>h,fun b l hb hl=>by have:=hr.dom b l hl;omega,Ak _,rfl,rfl,rfl,fun _ _=>rfl⟩⟩
 have later: ∀k k',(f (k+1)).next =(f k).next +1->k<k'->k'<=p->(f k).next <(f k').next /\Zs (f k').mem (f k).next =Zs (f (k+1)).mem (f k).next :=by
  intro k k' hk1 hk
  induction k' with
  | zero=>omega
  | succ k' ih=>
   intro hk';by_cases e:k=k'
   .grind
   .obtain ⟨h1,h2⟩:=ih (by omega) (by omega);rcases stepAt k' (by omega) with ⟨h3,h4⟩ | ⟨cells,ty,h3,h4⟩;all_goals grind [Zx]
 obtain ⟨hrp,hep⟩:=start p (Ak _);refine ⟨p,?_,hd,cF.size,?_,?_,hp,hpk,?_,hrp,hep,fun k q o x b ab _ hqp _ _ hx _ hc=>absurd hc (noch q x hqp hx),?_⟩
 .intro j o _ hs;grind
 .grind
 .intro t _;exact cF.get t
 .grind
 .intro k o hk ho hnw _;have hkp:k<p:=hpk k o hk ho hnw;obtain ⟨o',ho',s⟩:=g.step' (k:=k) hk;rw [ho] at ho';obtain rfl:=Ac ho';obtain ⟨cells,ty,h3,h4,_⟩:=s.fresh (g.ob _ (by omega)) hnw (g.chk.guard _ o ho hnw);obtain ⟨h5,h6⟩:=later k p h4 hkp (Ak _);have hge:st.next<=(f k).next :=by have:=g.next_le (a:=0) (b:=k) (AD _) (by omega);rw [g.f0] at this;exact this
  refine ⟨hge,h5,?_,h6⟩;cases e:ρ (f k).next with
  | none=>rfl
  | some l=>have:=cB.dom _ l e;omega
theorem PR {S:BC} {R:BI} (hN:CY P) (hS:Zu P S) (hRI:Ct R) (hR:D8 P R) {st':St} (hcx:cx.floor<=st.next) (cW:Fn z ops=true)
  (h:Hn z P S R ops cx (Jq ops) [] st=some st') (ho:st'.ob=true) {ρ:BD} {a:Act} {w:World} (hd:a.defers=D) (cF:Xm ρ st.env cx.n a.tmps) (cB:BF ρ st.mem st.next w):
  wpAny P .any ops (E7 D ρ cx st st' w) ops.size (Array.replicate ops.size false) a w:=by
 obtain ⟨f,f0,fn,fs,_,fp⟩:=Kb (Jq ops) [] st st' h;have cC:(Jq ops).length =ops.size:=by simp [Jq,Yg]
 rw [cC] at fn;have dA: ∀(k:Nat) (hk:k<(Zi ops).length),cx.floor<=(f k).next ->L4 S z P ops cx (Qo ops (Zi ops)[k],ops.getD (Zi ops)[k] default) (f k) (f (k+1)):=by
  grind [Jq,Y4]
 have hnx: ∀k,k<=ops.size->cx.floor<=(f k).next :=by
  intro k
  induction k with
  | zero=>grind
  | succ k ih=>intro hk;have hc:=ih (by omega);exact AE hc (dA k (by rw [Yg];omega) hc).inv.nxt
 have hob: ∀k,k<=ops.size->(f (ops.size - k)).ob =true:=by
  intro k
  induction k with
  | zero=>grind
  | succ k ih=>
   intro hk;have hk':ops.size - (k+1)<(Zi ops).length :=by rw [Yg];omega
   have s:=dA _ hk' (hnx _ (by omega));refine s.inv.ob ?_
   grind
 have g:CC S z P ops cx st f:=⟨MJ cW,f0,hcx,fun k hk=>by
  have:=hob (ops.size - k) (by omega);rwa [show ops.size - (ops.size - k)=k by omega] at this,fun k hk=>dA k hk (hnx k (by rw [Yg] at hk;omega)),fun q k hq hk=>by
   have:=fp q k hq (by grind [Yg]);simp_all [Jq]⟩
 obtain ⟨p,I⟩:=WO g hd cF cB;have:=w1a g cF.out cB.bd ops.size (Array.replicate ops.size false) p ρ a w (by simp) (by
  rw [List.countP_eq_length.2];all_goals simp_all) I
 grind
theorem Oa {S:BC} {R:BI} (hRI:Ct R): ∀(l:List (Bool×Oper)) (st st':St),K8 P S R ops cx l st=some st'->Yq cx.floor st st'
 | [],st,st',h=>by
  have h:some st=some st':=h
  grind [Yq.refl]
 | x::l,st,st',h=>by
  rw [PE,Bq] at h;obtain ⟨st1,h1,h2⟩:=h;refine Yq.trans ?_ (Oa hRI l st1 st' h2);unfold Dt at h1;split at h1
  .cases h1
  .rename_i st2 hw;obtain ⟨w1,w2,w3⟩:=Xx hw;refine (Yq.same w1 w2 fun h=>(w3 h).1).trans ?_;unfold Fp at h1;split at h1
   .split at h1
    .rename_i st3 ho;obtain ⟨_,e2,e3,e4⟩:=Yn ho;obtain ⟨p1,p2,p3,_⟩:=Xp h1;exact (Yq.same e2 e3 fun h=>(e4 h).2).trans (Yq.same p1 p2 fun h=>by rw [<-p3];exact h)
    .cases h1
   .split at h1
    .rename_i v st3 he;obtain ⟨p1,p2,p3,_⟩:=Xp h1;exact (Oo hRI he).1.trans (Yq.same p1 p2 fun h=>by rw [<-p3];exact h)
    .cases h1
  .rename_i st2 hw;obtain ⟨w1,w2,w3⟩:=Xx hw;obtain ⟨p1,p2,p3,_⟩:=Xp h1;exact (Yq.same w1 w2 fun h=>(w3 h).1).trans (Yq.same p1 p2 fun h=>by rw [<-p3];exact h)
theorem XH {S:BC} {R:BI} (hRI:Ct R) {x:Bool×Oper} {st st':St} (h:GQ z P S R ops cx x st=some st'):Yq cx.floor st st':=by
 unfold GQ at h;cases hz:GG z x.2.op with
 | false=>
  rw [hz,Ai] at h;cases hz2:isBirth z x.2.op with
  | true=>
   rw [hz2,Ah] at h;split at h
   .cases h
   .rename_i st2 hw;obtain ⟨w1,w2,w3⟩:=Xx hw;unfold Lg at h;split at h
    .split at h
     .obtain ⟨p1,p2,p3,_⟩:=Xp h;exact ((Yq.same w1 w2 fun h=>(w3 h).1).trans (Yq.new _ _ _)).trans (Yq.same p1 p2 fun h=>by grind)
     .cases h
    .cases h
   .rename_i st2 hw;obtain ⟨w1,w2,w3⟩:=Xx hw
    grind [Xp,Yq.same]
  | false=>rw [hz2,Ai] at h;exact Oa hRI [x] st st' (by rw [PE,h];rfl)
 | true=>
  rw [hz,Ah] at h;split at h
  .cases h
  .rename_i st2 hw;obtain ⟨w1,w2,w3⟩:=Xx hw
   grind [M1,Xp,Yq.same]
  .rename_i st2 hw;obtain ⟨w1,w2,w3⟩:=Xx hw
   grind [Xp,Yq.same]
theorem PD {S:BC} {R:BI} (hRI:Ct R) (l:List (Nat×Bool×Oper)) (acc:List CO) (st st':St) (h:Hn z P S R ops cx l acc st=some st'):Yq cx.floor st st':=by
 obtain ⟨f,f0,fn,fs,_,_⟩:=Kb l acc st st' h;have: ∀k,k<=l.length->Yq cx.floor st (f k):=by
  intro k
  induction k with
  | zero=>intro _;rw [f0];exact Yq.refl _ _
  | succ k ih=>
   intro hk;refine (ih (by omega)).trans ?_
   grind [XH]
 grind
end
section
variable {P:Program}
theorem QK {H:CX} {w:World} (hH: ∀k o,H k=some o->w.heap[k]? =some o) (hG:Glob H):BF (Km H) .leaf 0 w:=
 ⟨(fun b l h=>by cases h),(fun b b' l l' h=>by cases h),(fun b l ab h=>by cases h),hH,(fun b l h=>by cases h),(fun b l h=>by cases h),(fun b _=>rfl),(fun j l h=>by cases h),hG⟩
structure SR (H:CX) (w:World) (ρ:BD) (v:BA) (u:Value) (w':World):Prop where
 val:Zb ρ v u
 le: ∀k o,H k=some o->ρ.fz k=some o
 old: ∀k o,ρ.fz k=some o->w'.heap[k]? =some o
 same: ∀k,k<w.heap.size->ρ.fz k=H k
 below:RowKit.Below w.heap.size w w'
theorem Gm {H:CX} {w w':World} {ρ:BD} {v:BA} {u:Value} {mem:BH} {next floor:Nat} (hv:Zb ρ v u) (hr:BF ρ mem next w') (hev:Ev (Km H) ρ floor .leaf 0 mem next w w'):SR H w ρ v u w':=
 ⟨hv,hev.ext.2.1,hr.old,hev.still,hev.os,hev.tape,hev.output,hev.size,fun k hk=>by
  have:w.heap[k]? =some w.heap[k]:=by simp [hk]
  rw [this];exact hev.frame k _ this fun b l hl=>by cases hl⟩
def CU :BC:=fun _=>none
theorem Zv :Zu P CU:=fun f F h=>by cases h
end
end Go.Am
end
