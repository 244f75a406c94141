/- A part of a proof: several texts in one. -/
import Derived.Test.YtigjpddfojohaaaGreatMb0
import Derived.IntWalk
set_option maxRecDepth 1000000
set_option maxHeartbeats 8000000
set_option linter.unusedVariables false
set_option linter.unusedSimpArgs false
noncomputable section
namespace Go.Am
open IntKind (wrap)
section
variable {P:Program} {ρ:Rho}
theorem Qf {t u e:TypeId} {ut:TypeDesc} {i:TypeInfo} {type:TypeId} (hu:P.underlying t=some (.slice e)) (hut:P.underlying u=some ut) (hni: ∀k,ut≠ .int k) (hi:P.info? e=some i) {ts:List TypeId} {base:Option Addr} {len n c:Nat} {x:Value} {vs:Array Value} {xs:List Value} {w:World}
  (cW:(Builtin.lenOf x).run P w=.ok n w) (dM:(Builtin.firstCells i.size n x).run P w=.ok vs w) (dB:len+n≤c) {w':World}
  (hst: ∀a,base=some a→(storeCells (a.add (len*i.size)) vs.toList).run P w=.ok () w') (hno:base=none→w'=w):
  (Builtin.append_ (t::u::ts).toArray type ((.slice base len c)::x::xs).toArray).run P w=.ok (.slice base (len+n) c) w':=by
 cases base with
 | none=>obtain rfl:=hno rfl;simp [Builtin.append_,run_underlying hu,run_underlying hut,Zg hi,cW,dM,dB]
 | some a=>have:=hst a rfl;simp [Builtin.append_,run_underlying hu,run_underlying hut,Zg hi,cW,dM,dB,this]
theorem Kb {t u e:TypeId} {ut:TypeDesc} {i:TypeInfo} {type:TypeId} (hu:P.underlying t=some (.slice e)) (hut:P.underlying u=some ut) (hni: ∀k,ut≠ .int k) (hi:P.info? e=some i) {z:Value} (hz:i.zero=some z) {ts:List TypeId} {base:Option Addr} {len n c:Nat} {x:Value} {vs old:Array Value} {xs:List Value} {w:World}
  (cW:(Builtin.lenOf x).run P w=.ok n w) (dM:(Builtin.firstCells i.size n x).run P w.drew=.ok vs w.drew) (hold:(Builtin.firstCells i.size len (.slice base len c)).run P w.drew=.ok old w.drew)
  (dB:c<len+n) (dT:(len+n+1)*(i.bytes+1)≤1099511627776):
  ∃newCap,len+n≤newCap∧ ∃rest:Array Value,rest.size=(newCap - (len+n))*z.cells.size∧
  (Builtin.append_ (t::u::ts).toArray type ((.slice base len c)::x::xs).toArray).run P w=.ok (.slice (some ⟨w.heap.size,0,none⟩) (len+n) newCap) (w.drew.alloc (.cells (old++vs++rest) e)):=by
 have hmul:len+n+1≤(len+n+1)*(i.bytes+1):=Nat.le_mul_of_pos_right _ (by omega);have hr:=w3q dT dB;have hr': ¬2 ^ 48<Builtin.nextslicecap (len+n) c*i.bytes:=hr;have hr'': ¬281474976710656<Builtin.nextslicecap (len+n) c*i.bytes:=hr;have h1: ¬len+n≤c:=by omega
 have h2: ¬(9223372036854775807<(len:Int)+(n:Int)):=by omega
 have hq:(Question.appendCap (len+n) c e).forced =false:=rfl;have hzero: ∀w,(zeroValue e).run P w=.ok z w:=fun w=>by simp [zeroValue,run_typeInfo w hi,hz]
 refine ⟨(Question.appendCap (len+n) c e).cut (w.tape w.drawn (Question.appendCap (len+n) c e)),by simp only [Question.cut];omega,Builtin.zeroCells z.cells ((Question.appendCap (len+n) c e).cut (w.tape w.drawn (Question.appendCap (len+n) c e)) - (len+n)),by simp [Builtin.zeroCells],?_⟩;have hty: ∀w,(typeInfo e).run P w=.ok i w:=fun w=>run_typeInfo w hi;simp [Builtin.append_,run_underlying hu,run_underlying hut,Zg hi,cW,h1,h2,hty,hr'',hq,dM,hold,hzero,newRow]
theorem Wx.append {a b:List AVal} {us vs:Array Value} (h:Wx ρ a us) (k:Wx ρ b vs):Wx ρ (a++b) (us++vs):=by
 refine ⟨by simp [h.1,k.1],fun i h1 h2=> ?_⟩;by_cases hi:i<a.length
 ·rw [Bi hi,Array.getElem_append_left (by rw [←h.1];exact hi)];exact h.2 i hi (by rw [←h.1];exact hi)
 ·rw [Be (by omega),Array.getElem_append_right (by rw [←h.1];omega)];have e:=h.1;simp only [e];exact k.2 (i - us.size) (by grind) (by grind)
theorem z1s {st:St} {w:World} (h:Rel ρ st.mem st.next w) (floor:Nat) {cs:List AVal} {vs:Array Value} (hr:Wx ρ cs vs) (rest:Array Value) (ty el:TypeId) (v:AVal) (u:Value)
  (dK: ∀ρ',ρ' st.next=some ⟨w.heap.size,0,cs.length,vs.size+rest.size⟩→Za ρ' v u) (hel:el=ty:=by rfl):
  y2l ρ floor st (z3r st cs ty) v w (Xs ρ st.next ⟨w.heap.size,0,cs.length,vs.size+rest.size⟩) u (w.drew.alloc (.cells (vs++rest) el)):=by
 have hd:Rel ρ st.mem st.next w.drew:=h.drawn _
 have:=z1r hd floor cs ty (vs++rest) el (by rw [hr.1];simp) (fun i h1 h2=>by
  rw [Array.getElem_append_left (by rw [←hr.1];exact h1)];exact hr.2 i h1 (by rw [←hr.1];exact h1)) v u (fun ρ' hρ'=>dK ρ' (by simp_all)) hel
 simp only [Array.size_append] at this;exact ⟨this.val,this.rel,this.ev.drawn⟩
theorem Ua {α:Type} {c:Bool} {x:Option α} {y:α} (h:(bif c then x else none)=some y):c=true∧x=some y:=by grind
structure v2n (P:Program) (ρ:Rho) (t u e:TypeId) (i:TypeInfo) (z:Value) (ux:Value) (n:Nat) (new:List AVal) (vs:Array Value) (w:World):Prop where
 rel:Wx ρ new vs
 hin: ∀{type:TypeId} {ts:List TypeId} {base:Option Addr} {len c:Nat} {xs:List Value},(n=0∨(n+1)*(i.bytes+1)≤1099511627776)→len+n≤c→ ∀{w':World},(∀a,base=some a→(storeCells (a.add (len*i.size)) vs.toList).run P w=.ok () w')→(base=none→w'=w)→
  (Builtin.append_ (t::u::ts).toArray type ((.slice base len c)::ux::xs).toArray).run P w=.ok (.slice base (len+n) c) w'
 hnew: ∀{type:TypeId} {ts:List TypeId} {base:Option Addr} {len c:Nat} {xs:List Value} {old:Array Value},(Builtin.firstCells i.size len (.slice base len c)).run P w.drew=.ok old w.drew→c<len+n→(len+n+1)*(i.bytes+1)≤1099511627776→
  ∃newCap,len+n≤newCap∧ ∃rest:Array Value,rest.size=(newCap - (len+n))*z.cells.size∧
   (Builtin.append_ (t::u::ts).toArray type ((.slice base len c)::ux::xs).toArray).run P w=.ok (.slice (some ⟨w.heap.size,0,none⟩) (len+n) newCap) (w.drew.alloc (.cells (old++vs++rest) e))
theorem y2r {n:Int} {bytes:Nat} (h0:0≤n) (h:n.toNat=0∨(n.toNat+1)*(bytes+1)≤1099511627776):IntKind.i64.wrap n=n∧n*(bytes:Int)≤281474976710656:=by
 grind [IntWalk.i64_in]
theorem Vy {mem:Mem} {next:Nat} {w:World} (h:Rel ρ mem next w) {t u e:TypeId} {ut:TypeDesc} {i:TypeInfo} {z:Value} {zero:List AVal} {x:AVal} {ux:Value} {n:Nat} {new:List AVal} (hu:P.underlying t=some (.slice e)) (hut:P.underlying u=some ut) (hi:P.info? e=some i) (hz:i.zero=some z)
  (hzr:Wx ρ zero z.cells) (hzl:zero.length=i.size) (hc:Wf mem i.size zero ut x=some (n,new)) (hx:Za ρ x ux) (hnl:new.length=n*i.size): ∃vs,v2n P ρ t u e i z ux n new vs w:=by
 unfold Wf at hc;split at hc
 ·rename_i kt;split at hc
  ·rename_i k m;obtain ⟨h0,hc⟩:=Ua hc;have h0:=As h0;simp only [Ab,Aa] at hc;obtain ⟨rfl,rfl⟩:=hc;cases hx;have hzs:z.cells.size=i.size:=by rw [←hzr.1];exact hzl
   refine ⟨Builtin.zeroCells z.cells m.toNat,?_,?_,?_⟩
   ·exact z6k hzr m.toNat (m.toNat*z.cells.size) (by rw [hzr.1])
   ·intro type ts base len c xs hr dB w' hst hno;obtain ⟨hw,hb⟩:=y2r h0 hr;have hb': ¬281474976710656<m*(i.bytes:Int):=(by omega);have hlt: ¬m<0:=(by omega);have hzv: ∀w,(zeroValue e).run P w=.ok z w:=fun w=>by simp [zeroValue,run_typeInfo w hi,hz]
    have hty: ∀w,(typeInfo e).run P w=.ok i w:=fun w=>run_typeInfo w hi;by_cases hz0:m.toNat*i.size=0
    ·have hze:Builtin.zeroCells z.cells m.toNat= #[]:=(by simp [Builtin.zeroCells,hzs,hz0]);rw [hze] at hst;cases base with
     | none=>obtain rfl:=hno rfl;simp [Builtin.append_,run_underlying hu,run_underlying hut,Zg hi,asInt,asIntOf,hw,hlt,hty,hb',dB,hz0]
     | some a=>have:=hst a rfl;simp only [] at this;simp [Builtin.append_,run_underlying hu,run_underlying hut,Zg hi,asInt,asIntOf,hw,hlt,hty,hb',dB,hz0,this]
    ·cases base with
     | none=>obtain rfl:=hno rfl;simp [Builtin.append_,run_underlying hu,run_underlying hut,Zg hi,asInt,asIntOf,hw,hlt,hty,hb',dB,hz0,hzv]
     | some a=>have:=hst a rfl;simp [Builtin.append_,run_underlying hu,run_underlying hut,Zg hi,asInt,asIntOf,hw,hlt,hty,hb',dB,hz0,hzv,this]
   ·intro type ts base len c xs old hold dB dT;have hr:m.toNat=0∨(m.toNat+1)*(i.bytes+1)≤1099511627776:=.inr (AG (Az _ (by omega)) dT);obtain ⟨hw,hb⟩:=y2r h0 hr;have hb': ¬281474976710656<m*(i.bytes:Int):=(by omega);have hlt: ¬m<0:=(by omega);have hmul:len+m.toNat+1≤(len+m.toNat+1)*(i.bytes+1):=Nat.le_mul_of_pos_right _ (by omega);have hr0:=w3q dT dB;have hr'': ¬281474976710656<Builtin.nextslicecap (len+m.toNat) c*i.bytes:=hr0;have h1: ¬len+m.toNat≤c:=(by omega);have h2: ¬(9223372036854775807<(len:Int)+(m.toNat:Int)):=(by omega);have h2': ¬(9223372036854775807<(len:Int)+max m 0):=(by omega);have hq:(Question.appendCap (len+m.toNat) c e).forced =false:=rfl;have hzv: ∀w,(zeroValue e).run P w=.ok z w:=fun w=>by simp [zeroValue,run_typeInfo w hi,hz]
    have hty: ∀w,(typeInfo e).run P w=.ok i w:=fun w=>run_typeInfo w hi;refine ⟨(Question.appendCap (len+m.toNat) c e).cut (w.tape w.drawn (Question.appendCap (len+m.toNat) c e)),by simp only [Question.cut];omega,Builtin.zeroCells z.cells ((Question.appendCap (len+m.toNat) c e).cut (w.tape w.drawn (Question.appendCap (len+m.toNat) c e)) - (len+m.toNat)),by simp [Builtin.zeroCells],?_⟩;by_cases hz0:m.toNat*i.size=0
    ·have hze:Builtin.zeroCells z.cells m.toNat= #[]:=(by simp [Builtin.zeroCells,hzs,hz0]);simp [Builtin.append_,run_underlying hu,run_underlying hut,Zg hi,asInt,asIntOf,hw,hlt,hb',h1,h2,h2',hty,hr'',hq,hold,hzv,newRow,hz0,hze]
    ·simp [Builtin.append_,run_underlying hu,run_underlying hut,Zg hi,asInt,asIntOf,hw,hlt,hb',h1,h2,h2',hty,hr'',hq,hold,hzv,newRow,hz0]
  ·cases hc
 ·rename_i hni';have hni: ∀k,ut≠ .int k:=fun k hk=>hni' k hk;obtain ⟨cW,dM⟩:=Wz (P:=P) h hc hx hnl;obtain ⟨vs,hvs,hfc⟩:=dM n (Ao _);rw [A5 (by omega)] at hvs;have eN:(Builtin.firstCells i.size n ux).run P w=.ok vs w:=hfc w.drawn;have hfc1:(Builtin.firstCells i.size n ux).run P w.drew=.ok vs w.drew:=hfc (w.drawn+1);exact ⟨vs,hvs,fun _ dB _ hst hno=>Qf hu hut hni hi (cW w) eN dB hst hno,fun hold dB dT=>Kb hu hut hni hi hz (cW w) hfc1 hold dB dT⟩
theorem y7x {w:World} {x:Obj} {n:Nat} {k:Nat} {o:Obj} (h:w.heap[k]? =some o):(World.alloc {w with drawn:=n} x).heap[k]? =some o:=by
 have:k<w.heap.size:=(AC.1 h).1;show (w.heap.push x)[k]? =some o
 grind
theorem x0j {w:World} {k:Nat} {cur:Array Value} {el:TypeId} {vs:List Value} {m:Nat} (hw:w.heap[k]? =some (.cells cur el (0,0))) (hm:m+vs.length≤cur.size):
  ∃cs1,(w.setRow k (cur.toList.take m++vs++cur.toList.drop (m+vs.length)).toArray).heap[k]? =some (.cells cs1 el (0,0))∧cs1.size=cur.size∧ ∀j,j<m→cs1[j]? =cur[j]? :=by
 have hc:cur.toList.length=cur.size:=Array.length_toList;refine ⟨_,setRow_heap w k cur _ el (0,0) hw,by simp;omega,fun j hj=> ?_⟩
 grind
def u2w (ρ:Rho) (m:Mem) (xs:List AVal) (w w':World):Prop:=
 (∀(b off len z b2 o2 n2:Nat) (c2:w1x) (r:List AVal) (blk:ABlk) (l:Loc),xs=.sl b off len (.un z)::.sl b2 o2 n2 c2::r→1≤n2→Zt m b=some blk→off+len*z=blk.cells.length→ρ b=some l→Xq ρ w' blk l)∧
 ∀r:List AVal,xs=.nils ::r→ ∀(k:Nat) (o:Obj),w.heap[k]? =some o→w'.heap[k]? =some o
theorem x2r {m:Mem} {sz:Nat} {zero:List AVal} {ut:TypeDesc} {b o n2:Nat} {c:w1x} {n:Nat} {new:List AVal} (h:Wf m sz zero ut (.sl b o n2 c)=some (n,new)):n=n2:=by
 have key:Yq m sz (.sl b o n2 c)=some (n,new)→n=n2:=fun h=>by
  simp only [Yq] at h;cases hm:Zt m b with
  | none=>grind
  | some blk=>rw [hm] at h;obtain ⟨_,h⟩:=y3x h;simp_all
 cases ut <;> first | exact key h | (cases h;done)
theorem Ju {st st' :St} {w:World} (h:Rel ρ st.mem st.next w) (floor:Nat) {ts:Array TypeId} {type:TypeId} {xs:List AVal} {us:Array Value} {v:AVal} (ha:Je P floor st ts.toList xs=some (v,st')) (hx:Xo (Za ρ) xs us.toList) (hty:tyOk P st.mem ts.toList xs=true):
  ∃ρ' u w',(Builtin.append_ ts type us).run P w=.ok u w'∧y2l ρ floor st st' v w ρ' u w'∧(st'.env=st.env∧st'.ob=st.ob)∧u2w ρ st.mem xs w w':=by
 obtain ⟨ts⟩:=ts;obtain ⟨us⟩:=us;simp only at ha hx;unfold Je at ha;split at ha
 ·rename_i t tu tts s x txs;cases hx with
  | @cons _ su _ _ hs hx=>
   cases hx with
   | @cons _ ux _ uxs hx _=>
    split at ha
    ·rename_i e ut hu hut;split at ha
     ·rename_i i zero hi hz;split at ha
      ·rename_i n new hcs;obtain ⟨i2,z,hi2,hz2,hzr,_⟩:=Xv (ρ:=ρ) hz;obtain rfl:i=i2:=by grind
       cases hc:(Nat.beq zero.length i.size&&Nat.beq new.length (n*i.size)&&Nat.ble 1 i.size&&new.all z2f) with
       | false=>grind
       | true =>
        rw [hc,Ag] at ha;simp only [Ac] at hc;obtain ⟨⟨⟨hzl,hnl⟩,hsz⟩,hsc⟩:=hc;have hzl:=Ah hzl;have hnl:=Ah hnl;have hsz:=Ai hsz;have hzs:z.cells.size=i.size:=by rw [←hzr.1];exact hzl
        obtain ⟨vs,hF⟩:=Vy (P:=P) h hu hut hi hz2 hzr hzl hcs hx hnl;have hvs:=hF.rel;have hvsz:vs.size=n*i.size:=by rw [←hvs.1];exact hnl
        have dL:=Za.cells_oneCell hvs hsc;split at ha
        ·-- nil
         cases hs;cases hn0:Nat.beq n 0 with
         | true=>rw [hn0,Ag] at ha;simp only [Ab,Aa] at ha;obtain ⟨rfl,rfl⟩:=ha;have hn0:=Ah hn0;subst hn0;have cX:=hF.hin (type:=type) (ts:=tts) (base:=none) (len:=0) (c:=0) (xs:=uxs) (.inl rfl) (Ao _) (w':=w) (fun a e=>by cases e) (fun _=>rfl);exact ⟨ρ,_,w,cX,⟨.nils,h,Ev.refl _ _ _ _ _ h.dom⟩,⟨rfl,rfl⟩,(fun _ _ _ _ _ _ _ _ _ _ _ e=>by cases e),fun _ _ _ _ h=>h⟩
         | false=>
          rw [hn0,Ad] at ha;cases hrm:Nat.ble ((n+1)*(i.bytes+1)) Jq with
          | false=>grind
          | true=>
           rw [hrm,Ag] at ha;simp only [Ab,Aa] at ha;obtain ⟨rfl,rfl⟩:=ha;have hrm:=Ai hrm;have hnpos:0<n:=by
            grind
           obtain ⟨newCap,dD,rest,dO,cX⟩:=hF.hnew (type:=type) (ts:=tts) (base:=none) (len:=0) (c:=0) (xs:=uxs) (old:= #[]) (by simp [Builtin.firstCells]) (by omega) (by simpa [Jq] using hrm);simp only [Al,Array.empty_append] at cX dD dO;have hsum:vs.size+rest.size=newCap*i.size:=by rw [hvsz,dO,hzs,←AI];grind
           refine ⟨_,_,_,cX,z1s h floor hvs rest e e _ _ (fun ρ' hρ'=> ?_),⟨rfl,rfl⟩,(fun _ _ _ _ _ _ _ _ _ _ _ e=>by cases e),fun _ _ k o h=>y7x h⟩;refine .sl _ 0 _ _ _ _ hρ' ?_ dD
           grind [Jo]
        ·-- a slice
         rename_i b off len cap;split at ha
         ·rename_i blk hm;split at ha
          ·rename_i old hold;cases hrm: !blk.isObj&&Nat.ble ((len+n+1)*(i.bytes+1)) Jq with
           | false=>grind
           | true =>
            rw [hrm,Ag] at ha;simp only [Ac,A8] at hrm;obtain ⟨hno,hrm⟩:=hrm;have hrm:=Ai hrm;have hrn:n=0∨(n+1)*(i.bytes+1)≤1099511627776:=.inr (AG (Az _ (by omega)) hrm);cases hs with
            | sl _ _ _ _ l c hρ dD hlc=>
             obtain ⟨hpold,holdl,holdle⟩:=z0d hold;have eA:=(h.blk b l blk hρ hm).at hno;have hln:=eA.n;have hmul:(len+n)*i.size=len*i.size+n*i.size:=AI _ _ _;have hoff:off+len*i.size≤blk.cells.length∨len*i.size=0:=(by omega);have hcos:Yq st.mem i.size (.sl b off len cap)=some (len,old):=(by simp [Yq,hm,hold,hno]);obtain ⟨_,hfo⟩:=Wz (P:=P) h hcos (.sl b off len cap l c hρ dD hlc) holdl;obtain ⟨ovs,hovs,hof⟩:=hfo len (Ao _);rw [A5 (by omega)] at hovs;have hovz:ovs.size=len*i.size:=by rw [←hovs.1];exact holdl
             have hof1:(Builtin.firstCells i.size len (.slice (some ⟨l.blk,l.base+off,none⟩) len c)).run P w.drew=.ok ovs w.drew:=hof (w.drawn+1);have inplace: ∀v st',len+n≤c→floor≤b→off+(len+n)*i.size≤blk.cells.length→
               some (AVal.sl b off (len+n) cap,st.withMem (Yr st.mem b (some ⟨blk.cells.take (off+len*i.size)++new++blk.cells.drop (off+(len+n)*i.size),blk.ty,none⟩)))=some (v,st')→(∀z,cap=.un z→z=i.size)→
               ∃ρ' u w',(Builtin.append_ (t::tu::tts).toArray type ((.slice (some ⟨l.blk,l.base+off,none⟩) len c)::ux::uxs).toArray).run P w=.ok u w'∧y2l ρ floor st st' v w ρ' u w'∧(st'.env=st.env∧st'.ob=st.ob)∧u2w ρ st.mem (.sl b off len cap::x::txs) w w':=by
              intro v st' dB hfl dF he hzc;simp only [Ab,Aa] at he;obtain ⟨rfl,rfl⟩:=he;obtain ⟨cur,el,hw,hcsz,cV⟩:=h.write hρ hm (off:=off+len*i.size) (cs:=new) (vs:=vs.toList) hno (by grind) (by omega) (fun j h1 h2=>by simpa using hvs.2 j h1 (by grind));have hst:=run_storeCells_at P l.blk (l.base+off+len*i.size) el vs.toList 0 cur w hw (by grind) dL;rw [Bh] at hst;have cX:=hF.hin (type:=type) (ts:=tts) (base:=some ⟨l.blk,l.base+off,none⟩) (len:=len) (c:=c) (xs:=uxs) hrn dB (w':=w.setRow l.blk (cur.toList.take (l.base+off+len*i.size)++vs.toList++cur.toList.drop (l.base+off+len*i.size+vs.toList.length)).toArray)
               (fun a e=>by cases e;rw [Yd];exact hst) (fun e=>by cases e)
              refine ⟨ρ,_,_,cX,⟨.sl _ _ _ _ l c hρ dD (by omega),?_,Ev.ofWrite h hρ hfl _ _⟩,⟨rfl,rfl⟩,(fun b' off' len' z b2 o2 n2 c2 r blk' l' e hn hm' hend hl'=> ?keep),fun _ e=>by cases e⟩
              case keep=>exfalso;cases e;obtain rfl:=hzc _ rfl;rw [hm] at hm';obtain rfl:=Af hm';obtain rfl:=x2r hcs;have:1*i.size≤n*i.size:=Az _ hn;omega
              have e1:off+len*i.size+new.length=off+(len+n)*i.size:=(by omega);rw [e1] at cV
              simpa only [St.withMem,AH] using cV
             have anew: ∀v st' (st1:St),c<len+n→Rel ρ st1.mem st1.next w→Ev ρ ρ floor st.mem st.next st1.mem st1.next w w→st1.env=st.env→st1.ob=st.ob→
               some (AVal.sl st1.next 0 (len+n) (.un i.size),z3r st1 (old++new) e)=some (v,st')→
               ∃ρ' u w',(Builtin.append_ (t::tu::tts).toArray type ((.slice (some ⟨l.blk,l.base+off,none⟩) len c)::ux::uxs).toArray).run P w=.ok u w'∧y2l ρ floor st st' v w ρ' u w'∧(st'.env=st.env∧st'.ob=st.ob)∧u2w ρ st.mem (.sl b off len cap::x::txs) w w':=by
              intro v st' st1 dB dU hev1 cZ hob he;simp only [Ab,Aa] at he;obtain ⟨rfl,rfl⟩:=he;obtain ⟨newCap,eO,rest,dO,cX⟩:=hF.hnew (type:=type) (ts:=tts) (base:=some ⟨l.blk,l.base+off,none⟩) (len:=len) (c:=c) (xs:=uxs) hof1 dB (by simpa [Jq] using hrm);have hov:=hovs.append hvs;have hsum:(ovs++vs).size +rest.size=newCap*i.size:=by rw [Array.size_append,hovz,hvsz,dO,hzs,←AI,←AI];grind
              have hp:=z1s dU floor hov rest e e (.sl st1.next 0 (len+n) (.un i.size)) (.slice (some ⟨w.heap.size,0,none⟩) (len+n) newCap) (fun ρ' hρ'=>by
               refine .sl _ 0 _ _ _ _ hρ' ?_ eO
               grind [Jo])
              refine ⟨_,_,_,cX,⟨hp.val,hp.rel,hev1.trans hp.ev⟩,⟨?_,?_⟩,(fun b' off' len' z b2 o2 n2 c2 r blk' l' e hn hm' hend hl'=> ?keep),fun _ e=>by cases e⟩
              case keep=>have hq:=h.blk b' l' blk' hl' hm';refine hq.world (Rho.le_refl ρ) ?_;obtain ⟨_,g1⟩:=hq.some;rw [g1];exact y7x g1
              all_goals simp_all [z3r]
             split at ha
             ·-- the capacity is known
              rename_i k;simp only [Jo] at dD;subst dD;cases hk:Nat.ble (len+n) c with
              | true=>
               rw [hk,Ag] at ha;have hk:=Ai hk;cases hf:(Nat.ble floor b&&Nat.ble (off+(len+n)*i.size) blk.cells.length) with
               | false=>grind
               | true=>rw [hf,Ag] at ha;simp_all
              | false=>
               rw [hk,Ad] at ha;have hk: ¬len+n≤c:=fun e=>by rw [AO e] at hk;cases hk
               exact anew _ _ st (by omega) h (Ev.refl _ _ _ _ _ h.dom) rfl rfl ha
             ·-- it is not
              rename_i zz;simp only [Jo] at dD;cases hf:(Nat.beq zz i.size&&Nat.ble floor b) with
              | false=>grind
              | true=>
               rw [hf,Ag] at ha;simp only [Ac] at hf;have hzz:=Ah hf.1;have hfl:=Ai hf.2;subst hzz;cases hk:Nat.ble (off+(len+n)*i.size) blk.cells.length with
               | true=>
                rw [hk,Ag] at ha;have hk:=Ai hk;have dB:len+n≤c:=by rw [hln] at dD;have:(len+n)*i.size≤c*i.size:=(by omega);exact Nat.le_of_mul_le_mul_right this hsz
                grind
               | false=>
                rw [hk,Ad] at ha;cases hend:Nat.beq (off+len*i.size) blk.cells.length with
                | false=>grind
                | true=>
                 rw [hend,Ag] at ha;have hend:=Ah hend;by_cases dB:len+n≤c
                 ·-- there is Jq: behind what is told
                  simp only [Ab,Aa] at ha;obtain ⟨rfl,rfl⟩:=ha;have hcm:(len+n)*i.size≤c*i.size:=Az _ dB;obtain ⟨cur,el,hw,hcsz,cV⟩:=h.beyond hρ hm hno (off:=off) (new:=new) (vs:=vs.toList) e (by grind) (by omega) (by omega) (fun j h1 h2=>by simpa using hvs.2 j h1 (by grind)) (by simpa [tyOk,tyB,hu,hm] using hty);have hst:=run_storeCells_at P l.blk (l.base+off+len*i.size) el vs.toList 0 cur w hw (by grind) dL;rw [Bh] at hst;have cX:=hF.hin (type:=type) (ts:=tts) (base:=some ⟨l.blk,l.base+off,none⟩) (len:=len) (c:=c) (xs:=uxs) hrn dB (w':=w.setRow l.blk (cur.toList.take (l.base+off+len*i.size)++vs.toList++cur.toList.drop (l.base+off+len*i.size+vs.toList.length)).toArray)
                   (fun a e=>by cases e;rw [Yd];exact hst) (fun e=>by cases e)
                  have hod:old=blk.cells.drop off:=by rw [hpold];exact A5 (by simp;omega)
                  refine ⟨_,_,_,cX,⟨.sl _ 0 _ _ ⟨l.blk,l.base+off,blk.cells.length - off+new.length,l.tot - off⟩ c (by simp [Xs]) ?_ (by omega),?_,Ev.ofBeyond h hρ hfl ⟨l.blk,l.base+off,blk.cells.length - off+new.length,l.tot - off⟩ rfl _ _⟩,⟨rfl,rfl⟩,(fun b' off' len' z b2 o2 n2 c2 r blk' l' e hn hm' _ hl'=> ?keep),fun _ e=>by cases e⟩
                  case keep=>
                   cases e;rw [hm] at hm';obtain rfl:=Af hm';rw [hρ] at hl';obtain rfl:=Af hl';obtain ⟨q0,q1,q2,q3,cs0,el0,q4,q5,q6⟩:=eA;rw [hw] at q4;obtain ⟨rfl,rfl⟩:cur=cs0∧el=el0:=by
                    grind
                   obtain ⟨cs1,s1,s2,s3⟩:=x0j (vs:=vs.toList) hw (m:=l.base+off+len*i.size) (by grind);refine .plain ⟨by rw [s1];grind,q1,q2,q3,cs1,el,s1,by grind,fun k hk=> ?_⟩;obtain ⟨v,r1,r2⟩:=q6 k hk
                   grind
                  ·simp only [Jo];omega
                  ·rw [hod];have e2:l.base+off+len*i.size=l.base+blk.cells.length:=(by omega);rw [e2]
                   simpa only [z3r,St.withMem] using cV
                 ·exact anew _ _ (st.withMem (Yr st.mem b none)) (by omega) (h.kill b) (Ev.ofKill h floor hρ) rfl rfl ha
          ·cases ha
         ·cases ha
        ·cases ha
      ·cases ha
     ·cases ha
    ·cases ha
 ·cases ha
theorem x5x {get:Nat→List AVal} {off len n sz N:Nat} {new:List AVal} (hl: ∀i,i<N→(get i).length =sz) (hN:off+len=N) (hnew:new.length=n*sz):
  (∀i,i<len+n→(Ze get off len sz new i).length =sz)∧rows (len+n) (Ze get off len sz new)=((rows N get).drop (off*sz)).take (len*sz)++new:=by
 have h1: ∀i,i<len+n→(Ze get off len sz new i).length =sz:=fun i hi=>by
  unfold Ze;cases e:Nat.ble len i with
  | true=>
   have:=Ai e;simp only [Ag,Bq,Bp,hnew];have:(i - len+1)*sz≤n*sz:=Az sz (by omega)
   grind
  | false=>
   have: ¬len≤i:=fun h=>by rw [AO h] at e;cases e
   grind
 refine ⟨h1,?_⟩;have cW:=Zh (len+n) h1;have hlenN:=Zh N hl;have hd:((rows N get).drop (off*sz)).length =len*sz:=by rw [Bp,hlenN,←hN,AI];omega
 rw [A5 (by omega)];apply List.ext_getElem?;intro i;by_cases hi:i<(len+n)*sz
 ·have hsz:0<sz:=by
   grind
  have hj:i %sz<sz:=Bk _ hsz;have hq:i / sz<len+n:=A4 (by grind);have e:i=i / sz*sz+i %sz:=by rw [Bu];exact (Bm i sz).symm
  generalize i / sz=q at*;generalize i %sz=j at*;subst e;rw [Xe (len+n) h1 q j hq hj];unfold Ze;cases e:Nat.ble len q with
  | true=>
   have hle:=Ai e;have:len*sz≤q*sz:=Az sz hle;simp only [Ag];rw [List.getElem?_append_right (by omega),hd,List.getElem?_take,AD hj,List.getElem?_drop]
   congr 1
   rw [Nat.sub_mul];omega
  | false=>
   have hlt:q<len:=by
    rcases AV q len with h | h
    ·exact h
    ·rw [AO h] at e;cases e
   have:(q+1)*sz≤len*sz:=Az sz hlt;rw [AI,BL] at this;simp only [Ad];rw [List.getElem?_append_left (by omega),List.getElem?_drop,←Xe N hl (off+q) j (by omega) hj]
   grind
 grind
theorem x5y (n:Nat) (z:List AVal):rep n z=rows n fun _=>z:=by unfold rep rows;rw [List.flatMap_def,List.map_const',List.length_range]
theorem Ev.remem {ρ':Rho} {floor:Nat} {m m' m'':Mem} {n n':Nat} {w w':World} (h:Ev ρ ρ' floor m n m' n' w w') (hm: ∀b,b<n→ ∀cs ty,Zt m b=some ⟨cs,ty,none⟩→Zt m'' b=Zt m' b):Ev ρ ρ' floor m n m'' n' w w':=
 ⟨h.ext,h.new,h.nxt,fun b hb e cs ty hc=>by rw [hm b hb cs ty hc];exact h.unborn b hb e cs ty hc,h.frame,h.fresh,h.size,h.os,h.tape,h.output,h.still⟩
theorem Rel.remem {mem mem':Mem} {next:Nat} {w:World} (h:Rel ρ mem next w) (hm: ∀b,Zt mem' b=Zt mem b):Rel ρ mem' next w:=
 ⟨h.dom,fun b b' l l' e e' he hs hs'=>h.inj b b' l l' e e' he (by grind) (by grind),fun b l ab e hc=>h.blk b l ab e (by grind),h.old,fun b l e hs=>h.sep b l e (by grind),h.real,fun b hb=>by rw [hm];exact h.bd b hb,h.ldom⟩
theorem z6x {cx:Ctx} {st st':St} {w:World} (h:Rel ρ st.mem st.next w) {t:TypeId} {x y v:AVal} {ux uy:Value} (hb:Vm P cx st t x y=some (v,st')) (hob:st'.ob=true) (hx:Za ρ x ux) (hy:Za ρ y uy):
  ∃ρ' u w',(Instr.makeSlice t ux uy).run P w=.ok u w'∧y2l ρ cx.floor st st' v w ρ' u w':=by
 unfold Vm at hb;split at hb
 ·rename_i e kl l kc c hu;split at hb
  ·rename_i i zero hi hz;cases dQ:(Nat.beq zero.length i.size&&Nat.ble 1 i.size) with
   | false=>grind
   | true=>
    rw [dQ,Ag] at hb;simp only [Ac] at dQ;obtain ⟨k1,k2⟩:=dQ;have hzl:=Ah k1;simp only [Aj,Aa] at hb;obtain ⟨st1,ho,rfl,rfl⟩:=hb;obtain ⟨o1,o2,o3,o4⟩:=z5c ho;obtain ⟨hc,_⟩:=o4 hob;have m2:st1.mem=Yr st.mem st.next (some ⟨rows c.toNat fun _=>zero,e,some ⟨i.size,c.toNat,.flat fun _=>zero⟩⟩):=o2
    have n2:st1.next=st.next+1:=o3
    have h0:We P st t (.int kl l) (.int kc c)=some (.sl st.next 0 l.toNat (.ex c.toNat),z3r st (rep c.toNat zero) e):=by simp_all [We]
    obtain ⟨ρ',uv,w',cX,hp,_,_⟩:=Us h cx.floor h0 hx hy;refine ⟨ρ',uv,w',cX,?_,?_,?_⟩
    ·have hv:=hp.val;cases hv with
     | sl _ _ _ _ l' c' hρ' eO eL=>
      have hbk:=hp.rel.blk st.next l' ⟨rep c.toNat zero,e,none⟩ hρ' (Zd _ _ _)
      have hcn:c'=c.toNat:=eO;have q1:=hbk.n;have q2:=hbk.tot;simp only [Ks,hzl] at q1;have:=Za.sla (ρ:=ρ') st.next i.size 0 l.toNat (.un i.size) l' c' hρ' (by grind [Jo]) eL
      grind
    ·have hr:Rel ρ' (Yr st.mem st.next (some ⟨rep c.toNat zero,e,none⟩)) (st.next+1) w':=hp.rel;rw [x5y] at hr;rw [m2,n2];obtain ⟨_,_,_,_,hzr,_⟩:=Xv (ρ:=ρ) hz;exact hr.setArr ⟨i.size,c.toNat,_⟩ (z1c (ρ:=ρ) (fun v hv=>.inl (Wx.mem hzr v (x5w hv).choose_spec.2)) _ _) rfl (Ai k2) fun _ _=>hzl
    ·rw [m2,n2];refine hp.ev.remem fun b' hb' cs ty hcs=> ?_;show _=Zt (Yr st.mem st.next _) b'
     grind [Zx]
  ·cases hb
 ·cases hb
theorem z2m {cx:Ctx} {st st':St} {w:World} (h:Rel ρ st.mem st.next w) {ts:Array TypeId} {type:TypeId} {xs:List AVal} {us:Array Value} {v:AVal} (ha:z0i P cx st ts.toList xs=some (v,st')) (hob:st'.ob=true) (hx:Xo (Za ρ) xs us.toList) (hty:tyOk P st.mem ts.toList xs=true):
  ∃ρ' u w',(Builtin.append_ ts type us).run P w=.ok u w'∧y2l ρ cx.floor st st' v w ρ' u w'∧ ∀b sz off len z r blk l,xs=.sla b sz off len (.un z)::r→Zt st.mem b=some blk→ρ b=some l→Xq ρ w' blk l:=by
 obtain ⟨ul⟩:=us;simp only at hx;unfold z0i at ha;split at ha
 ·rename_i t u tr b sz off len z x xr hts;split at ha
  ·rename_i e ut hu hut;split at ha
   ·cases ha
   ·rename_i hni;split at ha
    ·rename_i i hi;split at ha
     ·rename_i n new zero blk hc hz hm;split at ha
      ·rename_i A hA;cases dQ:(Nat.beq zero.length i.size&&Nat.beq new.length (n*i.size)&&Nat.ble 1 i.size&&new.all z2f&&Nat.beq sz i.size&&Nat.beq z sz&&Nat.ble cx.floor b&&Nat.ble 1 n) with
       | false=>grind
       | true=>
        rw [dQ,Ag] at ha;have hchk0:=dQ;simp only [Ac] at dQ;obtain ⟨⟨⟨⟨⟨⟨⟨k1,k2⟩,k3⟩,k4⟩,k5⟩,k6⟩,k7⟩,k8⟩:=dQ;obtain rfl:=Ah k5;obtain rfl:=Ah k6;have hnl:=Ah k2;have hsz1:=Ai k3;have hfl:=Ai k7;have hn1:=Ai k8;simp only [Aj,Aa] at ha;obtain ⟨st1,ho,rfl,rfl⟩:=ha;obtain ⟨o1,o2,o3,o4⟩:=z5c ho;obtain ⟨hb,_⟩:=o4 hob;simp only [Ac,Ak] at hb;obtain ⟨hAs,hfull,dB⟩:=hb;have hAs:=Ah hAs;have hbn:b<st.next:=by
         rcases AV b st.next with g | g
         ·exact g
         ·rw [h.bd b g] at hm;cases hm
        have m2:st1.mem=Yr (Yr st.mem b none) st.next (some ⟨rows (len+n) (Ze A.get off len i.size new),e,some ⟨i.size,len+n,Ze A.get off len i.size new⟩⟩):=o2
        have n2:st1.next=st.next+1:=o3
        cases hx with
        | cons ha0 hr=>
         cases ha0 with
         | sla _ _ _ _ _ l c hρ dD cW=>
          have hb0:=(h.blk b l blk hρ hm).rows hA;have hno:=hb0.noObj;obtain ⟨dY,eM,dH⟩:=hb0.arr A hA;rw [hAs] at dH;obtain ⟨q1,q2⟩:=x5x (new:=new) dH hfull hnl;have hlenr:=Zh A.n dH;have hmul:off*i.size+len*i.size=A.n*i.size:=(by grind);have hcut:cut blk.cells (off*i.size) (len*i.size)=some ((blk.cells.drop (off*i.size)).take (len*i.size)):=by
           unfold cut;simp only;rw [show Nat.beq ((blk.cells.drop (off*i.size)).take (len*i.size)).length (len*i.size)=true from by
            rw [Nat.beq_eq];simp [dY,hlenr];omega]
           rfl
          have hroom':Nat.ble ((len+n+1)*(i.bytes+1)) Jq=true:=AO dB;have hnot:Nat.ble (off*i.size+(len+n)*i.size) blk.cells.length=false:=by
           have:1*i.size≤n*i.size:=Az _ hn1;cases g:Nat.ble (off*i.size+(len+n)*i.size) blk.cells.length with
           | false=>rfl
           | true=>
            have:=Ai g
            grind
          have hat:Nat.beq (off*i.size+len*i.size) blk.cells.length=true:=(by simp_all);have h0:Je P cx.floor st ts.toList (.sl b (off*i.size) len (.un i.size)::x::xr)=some (.sl st.next 0 (len+n) (.un i.size),z3r (st.withMem (Yr st.mem b none)) (((blk.cells.drop (off*i.size)).take (len*i.size))++new) e):=by
           rw [hts];unfold Je;simp only [hu,hut,hi,hz]
           grind [Wf]
          obtain ⟨ρ',uv,w',cX,hp,_,hkeep⟩:=Ju (type:=type) h cx.floor h0 (us:=⟨_⟩) (.cons (.sl _ _ _ _ l c hρ dD cW) hr) (by rw [hts] at hty ⊢;simpa [tyOk,tyB,hu,hm] using hty);refine ⟨ρ',uv,w',cX,⟨?_,?_,?_⟩,fun b' sz' off' len' z' r' blk' l' e hm' hl'=> ?_⟩
          rotate_left 3
          ·injection e with e1 _;injection e1 with f1 _ _ _ _;subst f1;rw [hm] at hm';obtain rfl:=Af hm';have hxs: ∃b2 o2 c2,x=.sl b2 o2 n c2:=by
            unfold Yq at hc;split at hc
            ·grind
            ·split at hc
             ·obtain ⟨_,hc⟩:=y3x hc;simp_all
             ·cases hc
            ·cases hc
           obtain ⟨b2,o2,c2,rfl⟩:=hxs;exact hkeep.1 _ _ _ _ _ _ _ _ _ _ _ rfl hn1 hm (by grind) hl'
          ·have hv:=hp.val;cases hv with
           | sl _ _ _ _ l' c' hρ' eO eL=>
            have:=Za.sla (ρ:=ρ') st.next i.size 0 (len+n) (.un i.size) l' c' hρ' (by grind) eL
            grind
          ·have hr:=hp.rel;rw [m2,n2];have hr:Rel ρ' (Yr (Yr st.mem b none) st.next (some ⟨((blk.cells.drop (off*i.size)).take (len*i.size))++new,e,none⟩)) (st.next+1) w':=hr;have eP:=z1c (ρ:=ρ) (cs:=((blk.cells.drop (off*i.size)).take (len*i.size))++new) (fun v hv=>(AW.1 hv).elim (fun k=>.inl (hb0.mem v (List.mem_of_mem_drop (List.mem_of_mem_take k)))) (fun k=>.inr (Aw.1 k4 v k))) e none;rw [dY,←q2] at hr eP;exact hr.setArr ⟨i.size,len+n,_⟩ eP rfl hsz1 q1
          ·rw [m2,n2];refine hp.ev.remem fun b' hb' cs ty hcs=> ?_;have hne:b'≠b:=fun e=>by grind
           show _=Zt (Yr (Yr st.mem b none) st.next _) b';rw [Zx _ _ (by omega),Zx _ _ hne,Zx _ _ (by omega),Zx _ _ hne]
         | slan=>
          have hq:=x5x (get:=fun _=>List.replicate i.size AVal.undef) (off:=0) (len:=0) (N:=0) (new:=new) (fun i hi=>absurd hi (AA _)) rfl hnl;have hfe:Ze (fun _=>List.replicate i.size AVal.undef) 0 0 i.size new=Ze A.get off 0 i.size new:=rfl;rw [hfe] at hq;obtain ⟨q1,q2⟩:=hq;have hn0:Nat.beq n 0=false:=by cases n with | zero=>omega | succ n=>rfl
          have hroom':Nat.ble ((n+1)*(i.bytes+1)) Jq=true:=AO (by grind);have h0:Je P cx.floor st ts.toList (.nils ::x::xr)=some (.sl st.next 0 n (.un i.size),z3r st new e):=by
           rw [hts];unfold Je
           grind [Wf]
          obtain ⟨ρ',uv,w',cX,hp,_,hkeep⟩:=Ju (type:=type) h cx.floor h0 (us:=⟨_⟩) (.cons .nils hr) (by rw [hts];simp [tyOk,hu]);refine ⟨ρ',uv,w',cX,⟨?_,?_,?_⟩,fun b' sz' off' len' z' r' blk' l' e hm' hl'=> ?_⟩
          rotate_left 3
          ·have hq:=h.blk b' l' blk' hl' hm';refine hq.world (Rho.le_refl ρ) ?_;obtain ⟨_,g1⟩:=hq.some;rw [g1];exact hkeep.2 _ rfl _ _ g1
          ·have hv:=hp.val;rw [Al];cases hv with
           | sl _ _ _ _ l' c' hρ' eO eL=>
            have:=Za.sla (ρ:=ρ') st.next i.size 0 n (.un i.size) l' c' hρ' (by grind) eL
            grind
          ·have hr:Rel ρ' (Yr st.mem st.next (some ⟨new,e,none⟩)) (st.next+1) w':=hp.rel;have hr:=hr.kill b;have hr:Rel ρ' (Yr (Yr st.mem b none) st.next (some ⟨new,e,none⟩)) (st.next+1) w':=hr.remem fun b'=>by
            simp only [Xi];by_cases e1:b'=st.next
            ·rw [AD e1,Ax (by omega),AD e1]
            simp_all
           rw [show new=rows (0+n) (Ze A.get off 0 i.size new) by rw [q2];simp] at hr;rw [m2,n2];have eP:=w9v k4 e none;rw [show new=rows (0+n) (Ze A.get off 0 i.size new) by rw [q2];simp] at eP;have:=hr.setArr ⟨i.size,0+n,Ze A.get off 0 i.size new⟩ eP rfl hsz1 q1;exact this
          ·rw [m2,n2];refine hp.ev.remem fun b' hb' cs ty hcs=> ?_;have hne:b'≠b:=fun e=>by grind
           show _=Zt (Yr st.mem st.next _) b';rw [Zx _ _ (by omega),Zx _ _ hne,Zx _ _ (by omega)]
      ·cases ha
     ·cases ha
    ·cases ha
  ·cases ha
 ·cases ha
theorem Rel.ghost {mem:Mem} {next:Nat} {w:World} (h:Rel ρ mem next w) (o:Option ABlk):Rel ρ (Yr mem next o) (next+1) w:=by
 have ne: ∀c l,ρ c=some l→c≠next:=fun c l e=>Bt (h.dom c l e)
 refine ⟨fun c l e=>Bb (h.dom c l e),fun c c' m m' e e' he hs hs'=> ?_,fun c m ac e hc=> ?_,h.old,fun c m e hs=> ?_,h.real,fun c hc=> ?_,⟨fun j l e=>Bb (h.ldom.1 j l e),h.ldom.2⟩⟩
 ·rw [Zx _ _ (ne _ _ e)] at hs;rw [Zx _ _ (ne _ _ e')] at hs';exact h.inj c c' m m' e e' he hs hs'
 ·rw [Zx _ _ (ne _ _ e)] at hc;exact h.blk c m ac e hc
 ·rw [Zx _ _ (ne _ _ e)] at hs;exact h.sep c m e hs
 ·rw [Zx _ _ (by omega)];exact h.bd c (by omega)
theorem Ev.ghost {mem:Mem} {next:Nat} {w:World} (h:Rel ρ mem next w) (floor:Nat) (o:Option ABlk):Ev ρ ρ floor mem next (Yr mem next o) (next+1) w w where
 ext:=Rho.le_refl _
 new _ _:=rfl
 nxt:=BO _
 unborn k hk _ cs ty hm:=by grind [Zx]
 frame _ _ hk _:=hk
 fresh k m hk e:=by have:=h.dom k m e;omega
 size:=Ao _
 os:=rfl
 tape:=rfl
 output:=rfl
 still _ _:=rfl
theorem w6f {mem:Mem} {next:Nat} {w:World} (h:Rel ρ mem next w) {n sz:Nat} {g:Nat→List AVal} {ux:Value} (hx:Za ρ (.dat n g) ux) (hg: ∀i,i<n→(g i).length =sz) (hsz:1≤sz):
  (∀w,(Builtin.lenOf ux).run P w=.ok n w)∧ ∃vs:Array Value,Wx ρ (rows n g) vs∧ ∀d,(Builtin.firstCells sz n ux).run P {w with drawn:=d}=.ok vs {w with drawn:=d}:=by
 cases hx with
 | datn=>exact ⟨fun w=>by simp [Builtin.lenOf], #[],⟨by simp [rows],fun i h1 h2=>by grind⟩,fun d=>by simp [Builtin.firstCells]⟩
 | datz=>exact ⟨fun w=>by simp [Builtin.lenOf], #[],⟨by simp [rows],fun i h1 h2=>by grind⟩,fun d=>by simp [Builtin.firstCells,loadCells,loadCellsFrom]⟩
 | dat _ _ blk base sz' cap val dD eW hv hh=>
  refine ⟨fun w=>by simp [Builtin.lenOf],?_⟩;have hl:=Zh n hg;have hdiv: ∀k,k<n*sz→k / sz<n∧k %sz<sz∧k / sz*sz+k %sz=k:=fun k hk=>
   ⟨A4 (by grind),Bk _ hsz,by rw [Bu];exact Bm k sz⟩
  have dS: ∀(d k:Nat),k<n*sz→({w with drawn:=d}:World).cell? ((⟨blk,base,none⟩:Addr).add k)=some (val (k / sz) (k %sz)):=by
   intro d k hk;obtain ⟨hq,hj,e4⟩:=hdiv k hk;have hs:sz'=sz:=by grind
   obtain ⟨cs,el,fz,e1,e2⟩:=hh (k / sz) (k %sz) hq (by omega);have e3:=h.old _ _ e1
   grind [Yd,World.cell?]
  refine ⟨_,⟨?_,?_⟩,fun d=>by simp only [Builtin.firstCells];exact run_loadCells _ _ _ (fun k=>val (k / sz) (k %sz)) (dS d)⟩
  ·simp [hl]
  ·intro k h1 h2;obtain ⟨hq,hj,e4⟩:=hdiv k (by grind);have hj':k %sz<(g (k / sz)).length :=by grind
   have hr:=Xe n hg (k / sz) (k %sz) hq hj;rw [e4,Ar h1,Ar hj'] at hr;rw [Af hr]
   simpa using (hv (k / sz) (k %sz) hq hj').mono (y1k ρ)
theorem z4f {g:Nat→List AVal} {p:AVal→Bool} (n:Nat) (h: ∀i,i<n→(g i).all p=true):(rows n g).all p=true:=by
 grind [rows]
theorem z0x {get:Nat→List AVal} {sz N off len:Nat} (hl: ∀i,i<N→(get i).length =sz) (h:off+len≤N):rows len (fun k=>get (off+k))=((rows N get).drop (off*sz)).take (len*sz):=by
 have h1: ∀k,k<len→(get (off+k)).length =sz:=fun k hk=>hl _ (by omega);have hL:=Zh len h1;have hN:=Zh N hl;have hm:(off+len)*sz≤N*sz:=Az _ h;rw [AI] at hm;apply List.ext_getElem?;intro i;by_cases hi:i<len*sz
 ·have hsz:0<sz:=by
   grind
  have hj:i %sz<sz:=Bk _ hsz;have hq:i / sz<len:=A4 (by grind);have e:i / sz*sz+i %sz=i:=by rw [Bu];exact Bm i sz
  have a1:=Xe len h1 (i / sz) (i %sz) hq hj;have a2:=Xe N hl (off+i / sz) (i %sz) (by omega) hj
  grind
 grind
theorem x0d (s:List UInt8):rows s.length (x5o s)=s.map fun b=>AVal.int .u8 b.toNat:=by
 unfold rows x5o;rw [←List.map_eq_flatMap];refine Bz (by simp) fun i h1 h2=> ?_;have hi:i<s.length:=by simpa using h2
 simp only [List.getElem_map,List.getElem_range];unfold bAt;rw [A9,Ar hi];rfl
theorem y4k {mem:Mem} {next:Nat} {w:World} (h:Rel ρ mem next w) {t u e:TypeId} {ut:TypeDesc} {i:TypeInfo} {z:Value} {zero:List AVal} {x:AVal} {ux:Value} {n:Nat} {g:Nat→List AVal} {o:Bool} (hu:P.underlying t=some (.slice e)) (hut:P.underlying u=some ut) (hi:P.info? e=some i) (hz:i.zero=some z)
  (hzr:Wx ρ zero z.cells) (hzl:zero.length=i.size) (hzs:zero.all z2f=true) (hsz:1≤i.size) (hc:y4l mem i.size zero ut x=some (n,g,o)) (ho:o=true) (hx:Za ρ x ux):
  (∀k,k<n→(g k).length =i.size)∧ ∃vs,v2n P ρ t u e i z ux n (rows n g) vs w∧ ∀v∈vs.toList,v.oneCell'=true:=by
 subst ho;unfold y4l at hc;split at hc
 ·rename_i k m;split at hc
  ·rename_i kt;simp only [Ab,Aa] at hc;obtain ⟨rfl,rfl,h0⟩:=hc;have hcs:Wf mem i.size zero (.int kt) (.int k m)=some (m.toNat,rep m.toNat zero):=by
    grind [Wf]
   obtain ⟨vs,hF⟩:=Vy (P:=P) (u:=u) (t:=t) h hu hut hi hz hzr hzl hcs hx (by rw [Ks,hzl]);rw [x5y] at hF;exact ⟨fun _ _=>hzl,vs,hF,Za.cells_oneCell hF.rel (z4f _ fun _ _=>hzs)⟩
  ·cases hc
 ·rename_i nn gg;split at hc
  ·cases hc
  ·rename_i hni;simp only [Ab,Aa] at hc;obtain ⟨rfl,rfl,h0⟩:=hc;have hp:= @As _ (Classical.propDecidable _) h0;obtain ⟨cW,vs,hvs,hfc⟩:=w6f (P:=P) h hx (fun i hi=>(hp i hi).1) hsz;have eN:(Builtin.firstCells i.size nn ux).run P w=.ok vs w:=hfc w.drawn;have hfc1:(Builtin.firstCells i.size nn ux).run P w.drew=.ok vs w.drew:=hfc (w.drawn+1);exact ⟨fun i hi=>(hp i hi).1,vs,⟨hvs,fun _ dB _ hst hno=>Qf hu hut (fun k e=>hni k e) hi (cW w) eN dB hst hno,fun hold dB dT=>Kb hu hut (fun k e=>hni k e) hi hz (cW w) hfc1 hold dB dT⟩,
    Za.cells_oneCell hvs (z4f _ fun i hi=>(hp i hi).2)⟩
 ·split at hc
  ·cases hc
  ·rename_i hni;simp only [Ab,Aa] at hc;obtain ⟨rfl,rfl,_⟩:=hc;have hcs:Wf mem i.size zero ut .nils =some (0,[]):=by
    unfold Wf;split
    ·grind
    ·rfl
   obtain ⟨vs,hF⟩:=Vy (P:=P) (u:=u) (t:=t) h hu hut hi hz hzr hzl hcs hx (by simp);exact ⟨fun k hk=>absurd hk (AA _),vs,hF,Za.cells_oneCell hF.rel rfl⟩
 ·rename_i b zz off len0 cap;split at hc
  ·cases hc
  ·rename_i hni;split at hc
   ·rename_i cells ty A hm;simp only [Ab,Aa,Ac,Ak] at hc;obtain ⟨rfl,rfl,h1,h2,dF,h4⟩:=hc;have hp:= @As _ (Classical.propDecidable _) h4;have h1:=Ah h1;have h2:=Ah h2;subst h1;have nc: ∀v,Wf mem i.size zero ut v=Yq mem i.size v:=fun v=>by
     grind [Wf]
    cases hx with
    | sla _ _ _ _ _ l c hρ dD hlc=>
     obtain ⟨dY,eM,dH⟩:=(h.blk b l _ hρ hm).arr A rfl;rw [h2] at dH;simp only at dY;have hrp:=z0x dH dF;have hlr:=Zh A.n dH;have hm2:(off+len0)*i.size≤A.n*i.size:=Az _ dF;rw [AI] at hm2;have cW:((cells.drop (off*i.size)).take (len0*i.size)).length =len0*i.size:=by
      grind
     have hcut:cut cells (off*i.size) (len0*i.size)=some ((cells.drop (off*i.size)).take (len0*i.size)):=by simp_all [cut]
     have hcs:Wf mem i.size zero ut (.sl b (off*i.size) len0 (.ex c))=some (len0,(cells.drop (off*i.size)).take (len0*i.size)):=by have hno:(⟨cells,ty,some A⟩:ABlk).isObj =false:=((h.blk b l _ hρ hm).rows rfl).noObj;rw [nc];simp [Yq,hm,hcut,hno]
     obtain ⟨vs,hF⟩:=Vy (P:=P) (u:=u) (t:=t) h hu hut hi hz hzr hzl hcs (.sl b (off*i.size) len0 (.ex c) l c hρ rfl hlc) cW;rw [dY,←hrp] at hF;exact ⟨fun k hk=>(hp k hk).1,vs,hF,Za.cells_oneCell hF.rel (z4f _ fun k hk=>(hp k hk).2)⟩
    | slan=>
     have hcs:Wf mem i.size zero ut .nils =some (0,[]):=by rw [nc];rfl
     obtain ⟨vs,hF⟩:=Vy (P:=P) (u:=u) (t:=t) h hu hut hi hz hzr hzl hcs .nils (by simp);exact ⟨fun k hk=>absurd hk (AA _),vs,hF,Za.cells_oneCell hF.rel rfl⟩
   ·cases hc
 ·rename_i s;split at hc
  ·obtain ⟨hs1,hc⟩:=Ua hc;have hs1:=Ah hs1;simp only [Ab,Aa] at hc;obtain ⟨rfl,rfl,_⟩:=hc;cases hx;have hvs:Wx ρ (rows s.length (x5o s)) (s.map fun b=>Value.int .u8 b.toNat).toArray :=by rw [x0d];refine ⟨by simp,fun j h1 h2=> ?_⟩;simp only [List.getElem_map,List.getElem_toArray];exact .int _ _
   have hl: ∀w,(Builtin.lenOf (.string ⟨s.toArray⟩)).run P w=.ok s.length w:=fun w=>by simp [Builtin.lenOf,←ByteArray.size_data]
   have hfc: ∀w,(Builtin.firstCells i.size s.length (.string ⟨s.toArray⟩)).run P w=.ok (s.map fun b=>Value.int .u8 b.toNat).toArray w:=fun w=>by simp [Builtin.firstCells,ByteArray.data_extract]
   exact ⟨fun k hk=>hs1.symm,_,⟨hvs,fun _ dB _ hst hno=>Qf hu hut (fun k e=>by cases e) hi (hl w) (hfc w) dB hst hno,fun hold dB dT=>Kb hu hut (fun k e=>by cases e) hi hz (hl w) (hfc _) hold dB dT⟩,
    Za.cells_oneCell hvs (z4f _ fun i hi=>rfl)⟩
  ·cases hc
 ·cases hc
def u2x (P:Program) (ρ:Rho) (floor:Nat) (mem mem':Mem) (next:Nat) (sz:Nat) (e:TypeId) (N:Nat) (G:Nat→List AVal) (w:World) (r:World→Result Value):Prop:=
 ∃ρ' u w',r w=.ok u w'∧Za ρ' (.sla next sz 0 N (.un sz)) u∧Rel ρ' (Yr mem' next (some ⟨rows N G,e,some ⟨sz,N,G⟩⟩)) (next+1) w'∧Ev ρ ρ' floor mem next (Yr mem' next (some ⟨rows N G,e,some ⟨sz,N,G⟩⟩)) (next+1) w w'
theorem y0t {mem:Mem} {next:Nat} {w:World} (h:Rel ρ mem next w) (floor:Nat) {t u e:TypeId} {type:TypeId} {ts:List TypeId} {xs:List Value} {i:TypeInfo} {z ux:Value} {n:Nat} {new:List AVal} {vs:Array Value} (hF:v2n P ρ t u e i z ux n new vs w)
  (dL: ∀v∈vs.toList,v.oneCell'=true) (hnl:new.length=n*i.size) (hzs:z.cells.size=i.size) (hsz:1≤i.size) {len c off b:Nat} {l:Loc} {blk:ABlk} (hrm:(len+n+1)*(i.bytes+1)≤Jq)
  (hρ:ρ b=some l) (hm:Zt mem b=some blk) (hno:blk.isObj=false) (hfl:floor≤b) (hoff:off+len*i.size≤blk.cells.length) (hlc:len≤c) (dD:(l.n≤off+c*i.size∧off+c*i.size≤l.tot)∨c≤len)
  {G:Nat→List AVal} (hG:rows (len+n) G=(blk.cells.drop off).take (len*i.size)++new) (hGl: ∀k,k<len+n→(G k).length =i.size) (htyb:blk.ty=e):
  u2x P ρ floor mem (Yr mem b none) next i.size e (len+n) G w fun w=>(Builtin.append_ (t::u::ts).toArray type ((.slice (some ⟨l.blk,l.base+off,none⟩) len c)::ux::xs).toArray).run P w:=by
 have hvs:=hF.rel;have hvsz:vs.size=n*i.size:=by rw [←hvs.1];exact hnl
 have hbk:=(h.blk b l blk hρ hm).at hno;have hln:=hbk.n;have htot:=hbk.tot;have hmul:(len+n)*i.size=len*i.size+n*i.size:=AI _ _ _;have hcut:cut blk.cells off (len*i.size)=some ((blk.cells.drop off).take (len*i.size)):=by unfold cut;simp only;rw [show Nat.beq ((blk.cells.drop off).take (len*i.size)).length (len*i.size)=true from by rw [Nat.beq_eq];simp;omega];rfl
 have hcos:Yq mem i.size (.sl b off len (.ex c))=some (len,(blk.cells.drop off).take (len*i.size)):=by simp [Yq,hm,hcut,hno]
 have holdl:((blk.cells.drop off).take (len*i.size)).length =len*i.size:=by simp;omega
 obtain ⟨_,hfo⟩:=Wz (P:=P) h hcos (.sl b off len (.ex c) l c hρ rfl hlc) holdl;obtain ⟨ovs,hovs,hof⟩:=hfo len (Ao _);rw [A5 (by omega)] at hovs;have hovz:ovs.size=len*i.size:=by rw [←hovs.1];exact holdl
 have hof1:(Builtin.firstCells i.size len (.slice (some ⟨l.blk,l.base+off,none⟩) len c)).run P w.drew=.ok ovs w.drew:=hof (w.drawn+1);have hrn:n=0∨(n+1)*(i.bytes+1)≤1099511627776:=.inr (AG (Az _ (by omega)) hrm);have eP:(⟨rows (len+n) G,e,none⟩:ABlk).isObj =false:=by rw [hG];exact z1c (fun v hv=>.inl (Wx.mem (hovs.append hvs) v hv)) _ _
 by_cases dB:len+n≤c
 ·-- there is Jq
  have hcm:(len+n)*i.size≤c*i.size:=Az _ dB;obtain ⟨T,t1,t2,t3⟩: ∃T,off+len*i.size - off+new.length≤T∧off+T≤l.tot∧c*i.size≤T:=by
   rcases dD with ⟨c1,c2⟩ | c1
   ·exact ⟨l.tot - off,by omega,by omega,by omega⟩
   ·have:n=0:=(by omega);subst this;have:c=len:=(by omega);subst this;exact ⟨c*i.size,by omega,by omega,by omega⟩
  obtain ⟨cur,el,hw,hcsz,cV⟩:=h.beyond2 hρ hm hno (off:=off) (m:=off+len*i.size) (T:=T) (new:=new) (vs:=vs.toList) e (by grind) (by omega) hoff t1 t2 (fun j h1 h2=>by simpa using hvs.2 j h1 (by grind)) htyb;have hst:=run_storeCells_at P l.blk (l.base+off+len*i.size) el vs.toList 0 cur w hw (by grind) dL;rw [Bh] at hst;have cX:=hF.hin (type:=type) (ts:=ts) (base:=some ⟨l.blk,l.base+off,none⟩) (len:=len) (c:=c) (xs:=xs) hrn dB (w':=w.setRow l.blk (cur.toList.take (l.base+off+len*i.size)++vs.toList++cur.toList.drop (l.base+off+len*i.size+vs.toList.length)).toArray)
   (fun a e=>by cases e;rw [Yd];exact hst) (fun e=>by cases e)
  have hdt:(blk.cells.take (off+len*i.size)).drop off=(blk.cells.drop off).take (len*i.size):=by
   grind
  rw [hdt,←hG,←AH] at cV;refine ⟨_,_,_,cX,?_,cV.setArr ⟨i.size,len+n,G⟩ eP rfl hsz hGl,?_⟩
  ·have:=Za.sla (ρ:=Xs ρ next ⟨l.blk,l.base+off,off+len*i.size - off+new.length,T⟩) next i.size 0 (len+n) (.un i.size) ⟨l.blk,l.base+off,off+len*i.size - off+new.length,T⟩ c (by simp [Xs])
    (by grind [Jo]) (by omega)
   grind
  grind [Ev.ofBeyond]
 ·-- a new row
  let st:St:=⟨.leaf,mem,next,[],true⟩
  have dU:Rel ρ (st.withMem (Yr mem b none)).mem (st.withMem (Yr mem b none)).next w:=h.kill b
  obtain ⟨newCap,eO,rest,dO,cX⟩:=hF.hnew (type:=type) (ts:=ts) (base:=some ⟨l.blk,l.base+off,none⟩) (len:=len) (c:=c) (xs:=xs) hof1 (by omega) (by simpa [Jq] using hrm);have hov:=hovs.append hvs;have hsum:(ovs++vs).size +rest.size=newCap*i.size:=by rw [Array.size_append,hovz,hvsz,dO,hzs,←AI,←AI];grind
  have hp:=z1s dU floor hov rest e e (.sla next i.size 0 (len+n) (.un i.size)) (.slice (some ⟨w.heap.size,0,none⟩) (len+n) newCap) (fun ρ' hρ'=>by
   have:=Za.sla (ρ:=ρ') next i.size 0 (len+n) (.un i.size) _ newCap hρ' (by
    grind [Jo]) eO
   grind)
  rw [←hG] at hp;refine ⟨Xs ρ next ⟨w.heap.size,0,(rows (len+n) G).length,(ovs++vs).size +rest.size⟩,_,_,cX,hp.val,?_,?_⟩
  ·exact Rel.setArr hp.rel ⟨i.size,len+n,G⟩ eP rfl hsz hGl
  ·refine ((Ev.ofKill h floor hρ).trans hp.ev).remem fun b' hb' cs ty hcs=> ?_;have hne: ¬b'=next:=Bt hb'
   show Zt (Yr (Yr mem b none) next _) b'=Zt (Yr (Yr mem b none) next _) b';simp only [Xi,Ax hne]
theorem y8s {mem:Mem} {next:Nat} {w:World} (h:Rel ρ mem next w) (floor:Nat) {t u e:TypeId} {type:TypeId} {ts:List TypeId} {xs:List Value} {i:TypeInfo} {z ux:Value} {n:Nat} {new:List AVal} {vs:Array Value} (hF:v2n P ρ t u e i z ux n new vs w)
  (hnl:new.length=n*i.size) (hzs:z.cells.size=i.size) (hsz:1≤i.size) (hrm:(0+n+1)*(i.bytes+1)≤Jq) {G:Nat→List AVal} (hG:rows (0+n) G=new) (hGl: ∀k,k<0+n→(G k).length =i.size):
  u2x P ρ floor mem mem next i.size e (0+n) G w fun w=>(Builtin.append_ (t::u::ts).toArray type ((.slice none 0 0)::ux::xs).toArray).run P w:=by
 have hvs:=hF.rel;have hvsz:vs.size=n*i.size:=by rw [←hvs.1];exact hnl
 rcases Nat.eq_zero_or_pos n with hn0 | hnpos
 ·subst hn0;have cX:=hF.hin (type:=type) (ts:=ts) (base:=none) (len:=0) (c:=0) (xs:=xs) (.inl rfl) (Ao _) (w':=w) (fun a e=>by cases e) (fun _=>rfl);exact ⟨ρ,_,w,cX,.slan _ _ _ _,h.ghost _,Ev.ghost h floor _⟩
 ·obtain ⟨newCap,dD,rest,dO,cX⟩:=hF.hnew (type:=type) (ts:=ts) (base:=none) (len:=0) (c:=0) (xs:=xs) (old:= #[]) (by simp [Builtin.firstCells]) (by omega) (by simpa [Jq] using hrm);have e0:(#[]:Array Value)++vs=vs:=by simp
  rw [e0] at cX;have hsum:vs.size+rest.size=newCap*i.size:=by rw [hvsz,dO,hzs,←AI];grind
  let st:St:=⟨.leaf,mem,next,[],true⟩
  have dU:Rel ρ st.mem st.next w:=h
  have hp:=z1s dU floor hvs rest e e (.sla next i.size 0 (0+n) (.un i.size)) (.slice (some ⟨w.heap.size,0,none⟩) (0+n) newCap) (fun ρ' hρ'=>by
   have:=Za.sla (ρ:=ρ') next i.size 0 (0+n) (.un i.size) _ newCap hρ' (by
    grind [Jo]) dD
   grind)
  rw [←hG] at hp;refine ⟨Xs ρ next ⟨w.heap.size,0,(rows (0+n) G).length,vs.size+rest.size⟩,_,_,cX,hp.val,Rel.setArr hp.rel ⟨i.size,0+n,G⟩ (by rw [hG];exact z1c (fun v hv=>.inl (Wx.mem hvs v hv)) _ _) rfl hsz hGl,?_⟩
  ·refine hp.ev.remem fun b' hb' cs ty hcs=> ?_;have hne: ¬b'=next:=Bt hb'
   show Zt (Yr mem next _) b'=Zt (Yr mem next _) b';simp only [Xi,Ax hne]
theorem Ve {α β:Type} {f g:α→List β}: ∀{l:List α},(∀a,a∈l→f a=g a)→l.flatMap f=l.flatMap g
 | [],_=>rfl
 | a::l,h=>by rw [List.flatMap_cons,List.flatMap_cons,h a (by simp),Ve fun b hb=>h b (by simp [hb])]
theorem z8r {get g:Nat→List AVal} {len n sz:Nat} (hl: ∀i,i<len→(get i).length =sz) (hg: ∀i,i<n→(g i).length =sz):
  (∀i,i<len+n→(Uy get len g i).length =sz)∧rows (len+n) (Uy get len g)=rows len get++rows n g:=by
 have h1: ∀i,i<len+n→(Uy get len g i).length =sz:=fun i hi=>by
  unfold Uy;cases e:Nat.ble len i with
  | true=>
   have:=Ai e
   grind
  | false=>
   have: ¬len≤i:=fun h=>by rw [AO h] at e;cases e
   grind
 refine ⟨h1,?_⟩;unfold rows;rw [List.range_add,List.flatMap_append]
 congr 1
 ·refine Ve fun i hi=> ?_;have:=AN.1 hi;unfold Uy;rw [show Nat.ble len i=false from A3.2 fun e=>by have:=Ai e;omega];rfl
 ·rw [List.flatMap_map];refine Ve fun i hi=> ?_;unfold Uy;rw [show Nat.ble len (len+i)=true from AO (Nat.le_add_right _ _),Ag,Nat.add_sub_cancel_left]
theorem x1d {sz:Nat}: ∀(n:Nat) (l:List AVal),l.length=n*sz→rows n (fun k=>(l.drop (k*sz)).take sz)=l∧ ∀k,k<n→((l.drop (k*sz)).take sz).length =sz:=by
 intro n l hl;have h1: ∀k,k<n→((l.drop (k*sz)).take sz).length =sz:=fun k hk=>by
  have:(k+1)*sz≤n*sz:=Az _ hk
  grind
 refine ⟨?_,h1⟩;have cW:=Zh n h1;apply List.ext_getElem?;intro i;by_cases hi:i<n*sz
 ·have hsz:0<sz:=by
   grind
  have hj:i %sz<sz:=Bk _ hsz;have hq:i / sz<n:=A4 (by grind);have e:i / sz*sz+i %sz=i:=by rw [Bu];exact Bm i sz
  grind [Xe]
 grind
theorem y2k {cx:Ctx} {st st':St} {w:World} (h:Rel ρ st.mem st.next w) {ts:Array TypeId} {type:TypeId} {xs:List AVal} {us:Array Value} {v:AVal} (ha:Jj P cx st ts.toList xs=some (v,st')) (hob:st'.ob=true) (hx:Xo (Za ρ) xs us.toList) (hty:tyOk P st.mem ts.toList xs=true):
  ∃ρ' u w',(Builtin.append_ ts type us).run P w=.ok u w'∧y2l ρ cx.floor st st' v w ρ' u w':=by
 obtain ⟨ts⟩:=ts;obtain ⟨us⟩:=us;simp only at ha hx;unfold Jj at ha;split at ha
 ·rename_i t tu tts s x txs;cases hx with
  | @cons _ su _ _ hs hx=>
   cases hx with
   | @cons _ ux _ uxs hx _=>
    split at ha
    ·rename_i e ut hu hut;split at ha
     ·rename_i i zero hi hz;split at ha
      ·rename_i b len get o1 n g o2 ht hc;obtain ⟨i2,z,hi2,hz2,hzr,_⟩:=Xv (ρ:=ρ) hz;obtain rfl:i=i2:=by grind
       obtain ⟨dQ,ha⟩:=Ua ha;simp only [Ac] at dQ;obtain ⟨⟨⟨hzl,hzsc⟩,hsz⟩,hfl⟩:=dQ;have hzl:=Ah hzl;have hsz:=Ai hsz;have hzs:z.cells.size=i.size:=by rw [←hzr.1];exact hzl
       simp only [Aj,Aa] at ha;obtain ⟨st1,ho,rfl,rfl⟩:=ha;obtain ⟨_,m2,n2,o4⟩:=z5c ho;obtain ⟨hb,_⟩:=o4 hob;simp only [Ac,Ak] at hb;obtain ⟨hb1,hb2,hrm⟩:=hb;have m2:st1.mem=Yr (x3f st.mem b) st.next (some ⟨rows (len+n) (Uy get len g),e,some ⟨i.size,len+n,Uy get len g⟩⟩):=m2
       have n2:st1.next=st.next+1:=n2
       obtain ⟨hgl,vs,hF,dL⟩:=y4k (P:=P) (u:=tu) (t:=t) h hu hut hi hz2 hzr hzl hzsc hsz hc hb2 hx.unN;have hnl:=Zh n hgl
       suffices u2x P ρ cx.floor st.mem (x3f st.mem b) st.next i.size e (len+n) (Uy get len g) w fun w=>(Builtin.append_ (t::tu::tts).toArray type (su::ux::uxs).toArray).run P w by obtain ⟨ρ',u,w',cX,hv,hr,hev⟩:=this;exact ⟨ρ',u,w',cX,hv,by grind,by grind⟩
       unfold z1l at ht;split at ht
       ·simp only [Ab,Aa] at ht;obtain ⟨rfl,rfl,rfl,_⟩:=ht;cases hs;obtain ⟨q1,q2⟩:=z8r (get:=fun _=>[]) (len:=0) (fun i hi=>absurd hi (AA _)) hgl;exact y8s h cx.floor hF hnl hzs hsz hrm (by rw [q2];simp [rows]) q1
       ·rename_i b0 off len0 cap;split at ht
        ·rename_i blk hm;split at ht
         ·rename_i old hold;obtain ⟨eE,ht⟩:=Ua ht;simp only [Ac,A8] at eE;obtain ⟨hno,eE,hoff⟩:=eE;have hoff:=Ai hoff;simp only [Ab,Aa] at ht;obtain ⟨rfl,rfl,rfl,_⟩:=ht;obtain ⟨k1,k2,k3⟩:=z0d hold;obtain ⟨r1,r2⟩:=x1d len0 old k2;obtain ⟨q1,q2⟩:=z8r r2 hgl;cases hs with
          | sl _ _ _ _ l c hρ dD hlc=>
           have hbk:=h.blk b0 l blk hρ hm;have k4:off+len0*i.size≤blk.cells.length:=(by omega);refine y0t h cx.floor hF dL hnl hzs hsz hrm hρ hm hno (Ai hfl) k4 hlc ?_ (by grind) q1 (by simpa [tyOk,tyB,hu,hm] using hty);cases cap with
           | ex k=>exact .inr (by simp only [Jo] at dD;rw [dD];exact Ai eE)
           | un zz=>
            have:=Ah eE
            grind [Jo]
         ·cases ht
        ·cases ht
       ·rename_i b0 zz off len0 cap;split at ht
        ·rename_i blk hm;split at ht
         ·rename_i A hA;obtain ⟨eE,ht⟩:=Ua ht;simp only [Ab,Aa] at ht;obtain ⟨rfl,rfl,rfl,rfl⟩:=ht;simp only [Ac,Ak] at hb1;obtain ⟨hz1,hz2',dF⟩:=hb1;obtain rfl:=Ah hz1;have hAs:=Ah hz2';cases hs with
          | sla _ _ _ _ _ l c hρ dD hlc=>
           obtain ⟨dY,eM,dH⟩:=(h.blk b0 l blk hρ hm).arr A hA;rw [hAs] at dH;have hlr:=Zh A.n dH;have hgl0: ∀k,k<len0→(A.get (off+k)).length =i.size:=fun k hk=>dH _ (by omega);obtain ⟨q1,q2⟩:=z8r hgl0 hgl;have hm2:(off+len0)*i.size≤A.n*i.size:=Az _ dF;rw [AI] at hm2;refine y0t h cx.floor hF dL hnl hzs hsz hrm hρ hm ((h.blk b0 l blk hρ hm).rows hA).noObj (Ai hfl) (by grind) hlc ?_ (by rw [q2,z0x dH dF,dY]) q1 (by simpa [tyOk,tyB,hu,hm] using hty);cases cap with
           | ex k=>exact .inr (by simp only [Jo] at dD;rw [dD];exact Ai eE)
           | un zz=>
            have:=Ah eE
            grind [Jo]
          | slan=>
           obtain ⟨q1,q2⟩:=z8r (get:=fun k=>A.get (off+k)) (len:=0) (fun i hi=>absurd hi (AA _)) hgl;obtain ⟨ρ',u,w',cX,hv,hr,hev⟩:=y8s (P:=P) (type:=type) (ts:=tts) (xs:=uxs) h cx.floor hF hnl hzs hsz hrm (G:=Uy (fun k=>A.get (off+k)) 0 g) (by rw [q2];simp [rows]) q1;have hbn:b0<st.next:=by
            rcases AV b0 st.next with g | g
            ·exact g
            ·rw [h.bd b0 g] at hm;cases hm
           refine ⟨ρ',u,w',cX,hv,?_,?_⟩
           ·refine (hr.kill b0).remem fun b'=> ?_;simp only [x3f,Xi];by_cases e1:b'=st.next
            ·rw [AD e1,Ax (by omega),AD e1]
            simp_all
           ·refine hev.remem fun b' hb' cs ty hcs=> ?_;have hne:b'≠b0:=fun e=>by grind
            show Zt (Yr (Yr st.mem b0 none) st.next _) b'=Zt (Yr st.mem st.next _) b';rw [Zx _ _ (by omega),Zx _ _ hne,Zx _ _ (by omega)]
         ·cases ht
        ·cases ht
       ·cases ht
      ·cases ha
     ·cases ha
    ·cases ha
 ·cases ha
theorem x5d {st st':St} {w:World} (h:Rel ρ st.mem st.next w) (floor:Nat) {ts:Array TypeId} {type:TypeId} {xs:List AVal} {us:Array Value} {v:AVal} (ha:x5g P floor st ts.toList xs=some (v,st')) (hx:Xo (Za ρ) xs us.toList):
  ∃ρ' u w',(Builtin.copy_ ts type us).run P w=.ok u w'∧y2l ρ floor st st' v w ρ' u w'∧st'.env=st.env∧st'.ob=st.ob:=by
 obtain ⟨ts⟩:=ts;obtain ⟨us⟩:=us;simp only at ha hx;unfold x5g at ha;split at ha
 ·rename_i t _ d x _;cases hx with
  | @cons _ ud _ _ hd hx=>
   cases hx with
   | @cons _ ux _ uxs hx _=>
    split at ha
    ·rename_i e hu;split at ha
     ·rename_i i hi;split at ha
      ·rename_i m src hcs;cases hc:(Nat.beq src.length (m*i.size)&&src.all z2f) with
       | false=>grind
       | true=>
        rw [hc,Ag] at ha;simp only [Ac] at hc;have hsl:=Ah hc.1;have hsc:=hc.2;obtain ⟨cW,dM⟩:=Wz (P:=P) h hcs hx hsl;split at ha
        ·cases hd;simp only [Ab,Aa] at ha;obtain ⟨rfl,rfl⟩:=ha;obtain ⟨vs,hvs,hfc⟩:=dM 0 (AE _);have eN:(Builtin.firstCells i.size 0 ux).run P w=.ok vs w:=hfc w.drawn;refine ⟨ρ,_,w,?_,⟨.int _ _,h,Ev.refl _ _ _ _ _ h.dom⟩,rfl,rfl⟩;simp_all [Builtin.copy_,run_underlying,Zg,goInt]
        ·rename_i dn dg;obtain ⟨hdn,ha'⟩:=Ua ha;clear ha;obtain rfl:=Ah hdn;simp only [Ab,Aa] at ha';obtain ⟨rfl,rfl⟩:=ha';obtain ⟨vs,hvs,hfc⟩:=dM 0 (AE _);have eN:(Builtin.firstCells i.size 0 ux).run P w=.ok vs w:=hfc w.drawn;have hv0:vs= #[]:=by
          have:vs.size=0:=by rw [←hvs.1];simp
          grind
         subst hv0;cases hd with
         | datn=>refine ⟨ρ,_,w,?_,⟨.int _ _,h,Ev.refl _ _ _ _ _ h.dom⟩,rfl,rfl⟩;simp_all [Builtin.copy_,run_underlying,Zg,goInt]
         | datz=>refine ⟨ρ,_,w,?_,⟨.int _ _,h,Ev.refl _ _ _ _ _ h.dom⟩,rfl,rfl⟩;simp_all [Builtin.copy_,run_underlying,Zg,goInt,storeCells]
         | dat=>refine ⟨ρ,_,w,?_,⟨.int _ _,h,Ev.refl _ _ _ _ _ h.dom⟩,rfl,rfl⟩;simp_all [Builtin.copy_,run_underlying,Zg,goInt,storeCells]
        ·rename_i b off len cap;split at ha
         ·rename_i blk hm;dsimp only at ha;cases hf:(!blk.isObj&&(Nat.ble floor b&&Nat.ble (off+(Nat.min m len)*i.size) blk.cells.length)) with
          | false=>grind
          | true=>
           rw [hf,Ag] at ha;simp only [Ac,A8] at hf;obtain ⟨hno,hf⟩:=hf;have hfl:=Ai hf.1;have dF:=Ai hf.2;simp only [Ab,Aa] at ha;obtain ⟨rfl,rfl⟩:=ha;cases hd with
           | sl _ _ _ _ l c hρ dD hlc=>
            have hmin:Nat.min m len≤m:=Nat.min_le_left _ _;have hmul:Nat.min m len*i.size≤m*i.size:=Az _ hmin;obtain ⟨vs,hvs,hfc⟩:=dM (Nat.min m len) hmin;have eN:(Builtin.firstCells i.size (Nat.min m len) ux).run P w=.ok vs w:=hfc w.drawn;have dL:=Za.cells_oneCell hvs (Aw.2 fun a ha=>Aw.1 hsc a (List.mem_of_mem_take ha));have hvl:(src.take (Nat.min m len*i.size)).length =Nat.min m len*i.size:=(by grind);obtain ⟨cur,el,hw,hcsz,cV⟩:=h.write hρ hm (off:=off) (cs:=src.take (Nat.min m len*i.size)) (vs:=vs.toList) hno (by simpa using hvs.1.symm) (by grind) (fun j h1 h2=>by simpa using hvs.2 j h1 (by grind));have hst:=run_storeCells_at P l.blk (l.base+off) el vs.toList 0 cur w hw (by grind) dL;rw [Bh] at hst;refine ⟨ρ,.int .i64 (Nat.min m len),w.setRow l.blk (cur.toList.take (l.base+off)++vs.toList++cur.toList.drop (l.base+off+vs.toList.length)).toArray,?_,⟨.int _ _,?_,Ev.ofWrite h hρ hfl _ _⟩,rfl,rfl⟩;all_goals simp_all [Builtin.copy_,run_underlying,Zg,goInt,St.withMem]
         ·cases ha
        ·cases ha
      ·cases ha
     ·cases ha
    ·cases ha
 ·cases ha
theorem w6e {mem:Mem} {next:Nat} {w:World} (h:Rel ρ mem next w) {n sz:Nat} {g:Nat→List AVal} {ux:Value} (hx:Za ρ (.dat n g) ux) (hg: ∀i,i<n→(g i).length =sz) (hsz:1≤sz) {m:Nat} (hm:m≤n):
  (∀w,(Builtin.lenOf ux).run P w=.ok n w)∧ ∃vs:Array Value,Wx ρ (rows m g) vs∧ ∀d,(Builtin.firstCells sz m ux).run P {w with drawn:=d}=.ok vs {w with drawn:=d}:=by
 cases hx with
 | datn=>
  obtain rfl:m=0:=by omega
  exact ⟨fun w=>by simp [Builtin.lenOf], #[],⟨by simp [rows],fun i h1 h2=>by grind⟩,fun d=>by simp [Builtin.firstCells]⟩
 | datz=>
  obtain rfl:m=0:=by omega
  exact ⟨fun w=>by simp [Builtin.lenOf], #[],⟨by simp [rows],fun i h1 h2=>by grind⟩,fun d=>by simp [Builtin.firstCells,loadCells,loadCellsFrom]⟩
 | dat _ _ blk base sz' cap val dD eW hv hh=>
  refine ⟨fun w=>by simp [Builtin.lenOf],?_⟩;have hg': ∀i,i<m→(g i).length =sz:=fun i hi=>hg i (by omega);have hl:=Zh m hg';have hdiv: ∀k,k<m*sz→k / sz<m∧k %sz<sz∧k / sz*sz+k %sz=k:=fun k hk=>
   ⟨A4 (by grind),Bk _ hsz,by rw [Bu];exact Bm k sz⟩
  have dS: ∀(d k:Nat),k<m*sz→({w with drawn:=d}:World).cell? ((⟨blk,base,none⟩:Addr).add k)=some (val (k / sz) (k %sz)):=by
   intro d k hk;obtain ⟨hq,hj,e4⟩:=hdiv k hk;have hs:sz'=sz:=by grind
   obtain ⟨cs,el,fz,e1,e2⟩:=hh (k / sz) (k %sz) (by omega) (by omega);have e3:=h.old _ _ e1
   grind [Yd,World.cell?]
  refine ⟨_,⟨?_,?_⟩,fun d=>by simp only [Builtin.firstCells];exact run_loadCells _ _ _ (fun k=>val (k / sz) (k %sz)) (dS d)⟩
  ·simp [hl]
  ·intro k h1 h2;obtain ⟨hq,hj,e4⟩:=hdiv k (by grind);have hj':k %sz<(g (k / sz)).length :=by grind
   have hr:=Xe m hg' (k / sz) (k %sz) hq hj;rw [e4,Ar h1,Ar hj'] at hr;rw [Af hr]
   simpa using (hv (k / sz) (k %sz) (by omega) hj').mono (y1k ρ)
theorem y7j {g:Nat→List AVal} {sz n m:Nat} (hg: ∀i,i<n→(g i).length =sz) (hm:m≤n):(rows n g).take (m*sz)=rows m g:=by
 have:=z0x (off:=0) (len:=m) hg (by omega)
 grind
theorem w3n {get g:Nat→List AVal} {sz N off n:Nat} (hl: ∀i,i<N→(get i).length =sz) (hg: ∀i,i<n→(g i).length =sz) (h:off+n≤N):
  (∀i,i<N→(Wd get off n g i).length =sz)∧rows N (Wd get off n g)=(rows N get).take (off*sz)++rows n g++(rows N get).drop (off*sz+n*sz):=by
 have h1: ∀i,i<N→(Wd get off n g i).length =sz:=fun i hi=>by
  unfold Wd;cases e:(Nat.ble off i&&Nat.ble (i+1) (off+n)) with
  | true=>
   simp only [Ac] at e;have e1:=Ai e.1;have e2:=Ai e.2
   grind
  | false=>exact hl _ hi
 refine ⟨h1,?_⟩;obtain ⟨r,rfl⟩: ∃r,N=off+(n+r):=⟨N - off - n,by omega⟩
 have e2:off*sz+n*sz=(off+n)*sz:=(AI _ _ _).symm;rw [y7j hl (by omega),e2];have e3:(rows (off+(n+r)) get).drop ((off+n)*sz)=rows r fun k=>get (off+n+k):=by
  rw [z0x (off:=off+n) (len:=r) hl (by omega)];rw [A5];have:=Zh _ hl
  grind
 rw [e3];unfold rows;rw [List.range_add,List.range_add,List.flatMap_append,List.map_append,List.flatMap_append,←AF]
 congr 1
 ·congr 1
  ·refine Ve fun i hi=> ?_;have:=AN.1 hi;unfold Wd;rw [show Nat.ble off i=false from A3.2 fun e=>by have:=Ai e;omega];rfl
  ·rw [List.flatMap_map];refine Ve fun i hi=> ?_;have:=AN.1 hi;unfold Wd;rw [AO (show off≤off+i by omega),AO (show off+i+1≤off+n by omega),Nat.add_sub_cancel_left];rfl
 ·rw [List.map_map,List.flatMap_map];refine Ve fun i hi=> ?_;unfold Wd;show (bif Nat.ble off (off+(n+i))&&Nat.ble (off+(n+i)+1) (off+n) then _ else _)=_;rw [show Nat.ble (off+(n+i)+1) (off+n)=false from A3.2 fun e=>by have:=Ai e;omega,AS,Ad]
  grind
theorem y5y {mem:Mem} {next:Nat} {w:World} (h:Rel ρ mem next w) {sz:Nat} (hsz:1≤sz) {x:AVal} {ux:Value} {m:Nat} {g:Nat→List AVal} {o:Bool} (hc:x4s mem sz x=some (m,g,o)) (ho:o=true) (hx:Za ρ x ux):
  (∀k,k<m→(g k).length =sz∧(g k).all z2f=true)∧ ∀n,n≤m→(∀w,(Builtin.lenOf ux).run P w=.ok m w)∧ ∃vs:Array Value,Wx ρ (rows n g) vs∧ ∀d,(Builtin.firstCells sz n ux).run P {w with drawn:=d}=.ok vs {w with drawn:=d}:=by
 subst ho;have part: ∀(b z off len c:Nat) (l:Loc) (blk:ABlk) (A:Arr),ρ b=some l→Zt mem b=some blk→blk.arr=some A→len≤c→(Nat.beq z sz&&(Nat.beq A.sz sz&&(decide (off+len≤A.n)&&pd (∀i,i<len→(A.get (off+i)).length =sz∧(A.get (off+i)).all z2f=true))))=true→
   (∀k,k<len→(A.get (off+k)).length =sz∧(A.get (off+k)).all z2f=true)∧ ∀n,n≤len→(∀w,(Builtin.lenOf (.slice (some ⟨l.blk,l.base+off*z,none⟩) len c)).run P w=.ok len w)∧ ∃vs:Array Value,Wx ρ (rows n fun k=>A.get (off+k)) vs∧ ∀d,(Builtin.firstCells sz n (.slice (some ⟨l.blk,l.base+off*z,none⟩) len c)).run P {w with drawn:=d}=.ok vs {w with drawn:=d}:=by
  intro b z off len c l blk A hρ hm hA cW ho;simp only [Ac,Ak] at ho;obtain ⟨k1,k2,k3,k4⟩:=ho;obtain rfl:=Ah k1;have k2:=Ah k2;have k4:= @As _ (Classical.propDecidable _) k4;refine ⟨k4,fun n hn=> ?_⟩;have hno:=((h.blk b l blk hρ hm).rows hA).noObj;obtain ⟨dY,eM,dH⟩:=(h.blk b l blk hρ hm).arr A hA;rw [k2] at dH;have hlr:=Zh A.n dH;have hm2:(off+len)*z≤A.n*z:=Az _ k3;rw [AI] at hm2;have hpl:=z0x dH k3;have hL:(rows len fun k=>A.get (off+k)).length =len*z:=Zh len fun i hi=>(k4 i hi).1;have hcs:Yq mem z (.sl b (off*z) len (.ex c))=some (len,rows len fun k=>A.get (off+k)):=by simp_all [Yq,cut]
  obtain ⟨q1,q2⟩:=Wz (P:=P) h hcs (.sl b (off*z) len (.ex c) l c hρ rfl cW) hL
  grind [y7j]
 have none0: ∀(g:Nat→List AVal) (n:Nat) (p:Option Addr) (c:Nat),n≤0→(∀w,(Builtin.lenOf (.slice p 0 c)).run P w=.ok 0 w)∧ ∃vs:Array Value,Wx ρ (rows n g) vs∧ ∀d,(Builtin.firstCells sz n (.slice p 0 c)).run P {w with drawn:=d}=.ok vs {w with drawn:=d}:=by
  intro g n p c hn;obtain rfl:n=0:=by omega
  cases p with
  | none=>exact ⟨fun w=>by simp [Builtin.lenOf], #[],⟨by simp [rows],fun i h1 h2=>by grind⟩,fun d=>by simp [Builtin.firstCells]⟩
  | some a=>refine ⟨fun w=>by simp [Builtin.lenOf],_,⟨?_,fun i h1 h2=>by simp [rows] at h1⟩,fun d=>by simp only [Builtin.firstCells];exact run_loadCells _ _ _ (fun _=>undef) fun k hk=>by grind⟩;simp [rows]
 unfold x4s at hc;split at hc
 ·simp only [Ab,Aa] at hc;obtain ⟨rfl,rfl,_⟩:=hc;cases hx;exact ⟨fun k hk=>absurd hk (AA _),fun n hn=>none0 _ n none 0 hn⟩
 ·rename_i n' g';simp only [Ab,Aa] at hc;obtain ⟨rfl,rfl,h0⟩:=hc;have hp:= @As _ (Classical.propDecidable _) h0;exact ⟨hp,fun n hn=>w6e (P:=P) h hx (fun i hi=>(hp i hi).1) hsz hn⟩
 ·split at hc
  ·rename_i blk hm;split at hc
   ·rename_i A hA;simp only [Ab,Aa] at hc;obtain ⟨rfl,rfl,h0⟩:=hc;cases hx with
    | sla _ _ _ _ _ l c hρ dD cW=>grind
    | slan=>exact ⟨fun k hk=>absurd hk (AA _),fun n hn=>none0 _ n none 0 hn⟩
   ·cases hc
  ·cases hc
 ·split at hc
  ·rename_i blk hm;split at hc
   ·rename_i A hA;simp only [Ab,Aa] at hc;obtain ⟨rfl,rfl,h0⟩:=hc;cases hx with
    | slv _ _ _ _ l c hρ cW=>grind
    | slve=>exact ⟨fun k hk=>absurd hk (AA _),fun n hn=>none0 _ n _ _ hn⟩
    | slvn=>exact ⟨fun k hk=>absurd hk (AA _),fun n hn=>none0 _ n none 0 hn⟩
   ·cases hc
  ·cases hc
 ·cases hc
theorem Rel.reblk {mem:Mem} {next:Nat} {w:World} (h:Rel ρ mem next w) {b:Nat} {blk blk':ABlk} (hm:Zt mem b=some blk) (hb: ∀l,ρ b=some l→Xq ρ w blk l→Xq ρ w blk' l):Rel ρ (Yr mem b (some blk')) next w:=by
 have iff: ∀c,(Zt (Yr mem b (some blk')) c).isSome =true→(Zt mem c).isSome =true:=fun c hc=>by
  grind [Xi]
 have hlt:b<next:=by
  rcases AV b next with q | q
  ·exact q
  ·rw [h.bd b q] at hm;cases hm
 refine ⟨h.dom,fun c c' m m' e e' he hs hs'=>h.inj c c' m m' e e' he (iff c hs) (iff c' hs'),fun c m ac e hc=> ?_,h.old,fun c m e hs=>h.sep c m e (iff c hs),h.real,fun c hc=> ?_,h.ldom⟩
 ·grind [Xi,blk]
 ·rw [Zx _ _ (by omega)];exact h.bd c hc
theorem Ev.put {mem:Mem} {next:Nat} {w:World} (h:Rel ρ mem next w) (floor:Nat) {b:Nat} {blk:ABlk} {A:Arr} (hm:Zt mem b=some blk) (hA:blk.arr=some A) (o:Option ABlk):Ev ρ ρ floor mem next (Yr mem b o) next w w where
 ext:=Rho.le_refl _
 new _ _:=rfl
 nxt:=Ao _
 unborn k _ e cs ty hk:=by
  grind [Zx]
 frame _ _ hk _:=hk
 fresh k m hk e:=by have:=h.dom k m e;omega
 size:=Ao _
 os:=rfl
 tape:=rfl
 output:=rfl
 still _ _:=rfl
theorem z7s {cx:Ctx} {st st':St} {w:World} (h:Rel ρ st.mem st.next w) {ts:Array TypeId} {type:TypeId} {us:Array Value} {b sz off len:Nat} {d x:AVal} {xs:List AVal} {v:AVal} (ha:z7t P cx st ts.toList b sz off len x=some (v,st')) (hob:st'.ob=true) (hx:Xo (Za ρ) (d::x::xs) us.toList)
  (hd: ∀u,Za ρ d u→(∃l c,ρ b=some l∧len≤c∧u=.slice (some ⟨l.blk,l.base+off*sz,none⟩) len c)∨(len=0∧ ∃p c,u=.slice p 0 c)):
  ∃ρ' u w',(Builtin.copy_ ts type us).run P w=.ok u w'∧y2l ρ cx.floor st st' v w ρ' u w':=by
 obtain ⟨ts⟩:=ts;obtain ⟨us⟩:=us;simp only at ha hx;unfold z7t at ha;split at ha
 ·rename_i t _;cases hx with
  | @cons _ ud _ _ hd0 hx=>
   cases hx with
   | @cons _ ux _ uxs hx _=>
    split at ha
    ·rename_i e hu;split at ha
     ·rename_i i blk hi hm;split at ha
      ·rename_i A m g o hA hcs;obtain ⟨dQ,ha⟩:=Ua ha;simp only [Ac] at dQ;have hfl:=Ai dQ.1;have hsz:=Ai dQ.2;simp only [Aj,Aa] at ha;obtain ⟨st1,ho,rfl,rfl⟩:=ha;obtain ⟨_,m2,n2,o4⟩:=z5c ho;obtain ⟨hb,_⟩:=o4 hob;simp only [Ac,Ak] at hb;obtain ⟨k1,k2,k3,k4⟩:=hb;obtain rfl:=Ah k1;have k2:=Ah k2;have m2:st1.mem=Yr st.mem b (some ⟨rows A.n (Wd A.get off (Nat.min m len) g),blk.ty,some ⟨A.sz,A.n,Wd A.get off (Nat.min m len) g⟩⟩):=m2;have n2:st1.next=st.next:=n2
       obtain ⟨hg,dM⟩:=y5y (P:=P) h hsz hcs k4 hx;have hmin:Nat.min m len≤m:=Nat.min_le_left _ _;have hmin2:Nat.min m len≤len:=Nat.min_le_right _ _;obtain ⟨cW,vs,hvs,hfc⟩:=dM (Nat.min m len) hmin;have eN:(Builtin.firstCells i.size (Nat.min m len) ux).run P w=.ok vs w:=hfc w.drawn;have hgl: ∀k,k<Nat.min m len→(g k).length =i.size:=fun k hk=>(hg k (by omega)).1;have hrl:=Zh (Nat.min m len) hgl;have dL:=Za.cells_oneCell hvs (z4f _ fun k hk=>(hg k (by omega)).2);have hbn:b<st.next:=by
        rcases AV b st.next with q | q
        ·exact q
        ·rw [h.bd b q] at hm;cases hm
       have nothing:Nat.min m len=0→Rel ρ st1.mem st1.next w∧Ev ρ ρ cx.floor st.mem st.next st1.mem st1.next w w:=fun e0=>by
        rw [m2,n2,e0];have same: ∀k,Wd A.get off 0 g k=A.get k:=fun k=>by
         unfold Wd;cases e:(Nat.ble off k&&Nat.ble (k+1) (off+0)) with
         | true=>simp only [Ac] at e;have e1:=Ai e.1;have e2:=Ai e.2;omega
         | false=>rfl
        have same:Wd A.get off 0 g=A.get:=funext same;rw [same];refine ⟨?_,Ev.put h cx.floor hm hA _⟩;refine h.reblk hm fun l hρ hbk=> ?_;have hbk:=hbk.rows hA;obtain ⟨dY,eM,dH⟩:=hbk.arr A hA;refine .plain ⟨by have:=hbk.typ;grind,by rw [hbk.n,dY],hbk.tot,fun B hB=> ?_,?_⟩
        ·obtain rfl:=Af hB;exact ⟨rfl,eM,dH⟩
        ·have:=hbk.cells
         grind
       rcases hd ud hd0 with ⟨l,c,hρ,hlc,rfl⟩ | ⟨rfl,p,c,rfl⟩
       ·have hb0:=(h.blk b l blk hρ hm).rows hA;have hno:=hb0.noObj;obtain ⟨dY,eM,dH⟩:=hb0.arr A hA;rw [k2] at dH;have hlr:=Zh A.n dH;have hfitN:off+Nat.min m len≤A.n:=(by omega);obtain ⟨c1,c2⟩:=w3n dH hgl hfitN;have hm3:(off+Nat.min m len)*i.size≤A.n*i.size:=Az _ hfitN;rw [AI] at hm3;obtain ⟨cur,el,hw,hcsz,cV⟩:=h.write hρ hm (off:=off*i.size) (cs:=rows (Nat.min m len) g) (vs:=vs.toList) hno (by simpa using hvs.1.symm) (by grind) (fun j h1 h2=>by simpa using hvs.2 j h1 (by grind));have eP:=hb0.splice (off:=off*i.size) (cs:=rows (Nat.min m len) g) (vs:=vs.toList) (by simpa using hvs.1.symm) (by grind) (fun j h1 h2=>by simpa using hvs.2 j h1 (by grind)) blk.ty none;have hst:=run_storeCells_at P l.blk (l.base+off*i.size) el vs.toList 0 cur w hw (by grind) dL;rw [Bh] at hst;rw [hrl,dY,←c2] at cV eP;refine ⟨ρ,.int .i64 (Nat.min m len:Nat),w.setRow l.blk (cur.toList.take (l.base+off*i.size)++vs.toList++cur.toList.drop (l.base+off*i.size+vs.toList.length)).toArray,?_,.int _ _,?_,?_⟩
        ·have hl2:=cW w;simp [Builtin.copy_,run_underlying hu,cW,Zg hi,eN,goInt,hst,-Array.length_toList,-List.append_assoc]
        ·rw [m2,n2];have:=cV.setArr ⟨A.sz,A.n,.flat (Wd A.get off (Nat.min m len) g)⟩ eP rfl eM (by rw [k2];exact c1);exact this
        grind [Ev.ofWrite]
       ·have e0:Nat.min m 0=0:=Nat.min_zero m;obtain ⟨n1,n3⟩:=nothing e0;refine ⟨ρ,.int .i64 (Nat.min m 0:Nat),w,?_,.int _ _,n1,n3⟩;rw [e0] at eN hvs;have hv0:vs= #[]:=by
         have:vs.size=0:=by rw [←hvs.1];simp [rows]
         grind
        subst hv0;cases p with
        | none=>simp [Builtin.copy_,run_underlying hu,cW,Zg hi,eN,goInt]
        | some a=>simp [Builtin.copy_,run_underlying hu,cW,Zg hi,eN,goInt,storeCells]
      ·cases ha
     ·cases ha
    ·cases ha
 ·cases ha
theorem y9j {st st':St} {w:World} (h:Rel ρ st.mem st.next w) (floor:Nat) {ts:Array TypeId} {type:TypeId} {xs:List AVal} {us:Array Value} {v:AVal} (ha:y1t P floor st ts.toList xs=some (v,st')) (hx:Xo (Za ρ) xs us.toList):
  ∃ρ' u w',(Builtin.clear_ ts type us).run P w=.ok u w'∧y2l ρ floor st st' v w ρ' u w'∧st'.env=st.env∧st'.ob=st.ob:=by
 obtain ⟨ts⟩:=ts;obtain ⟨us⟩:=us;simp only at ha hx;unfold y1t at ha;have unit:Za ρ (.tup []) (.tuple #[]):=.tup [] #[] rfl fun i h1 _=>by simp at h1
 split at ha
 ·rename_i t _ d _;cases hx with
  | @cons _ ud _ _ hd _=>
   split at ha
   ·rename_i e hu;split at ha
    ·rename_i i zero hi hz;obtain ⟨i2,z,hi2,_,hzr,hzv⟩:=Xv (ρ:=ρ) hz;split at ha
     ·cases hd;simp only [Ab,Aa] at ha;obtain ⟨rfl,rfl⟩:=ha;exact ⟨ρ,.tuple #[],w,by simp [Builtin.clear_,run_underlying hu],⟨unit,h,Ev.refl _ _ _ _ _ h.dom⟩,rfl,rfl⟩
     ·rename_i b off len cap;cases hd with
      | sl _ _ _ _ l c hρ dD hlc=>
       rcases (by cases hl0:Nat.beq len 0 with
         | true=>rw [hl0] at ha;exact .inl ⟨rfl,ha⟩
         | false=>rw [hl0] at ha;exact .inr ⟨rfl,ha⟩:(Nat.beq len 0=true∧_)∨(Nat.beq len 0=false∧_)) with ⟨hl0,ha⟩ | ⟨hl0,ha⟩
       ·have hl0:=Ah hl0;subst hl0;simp only [Ag,Ab,Aa] at ha;obtain ⟨rfl,rfl⟩:=ha;exact ⟨ρ,.tuple #[],w,by simp [Builtin.clear_,run_underlying hu],⟨unit,h,Ev.refl _ _ _ _ _ h.dom⟩,rfl,rfl⟩
       ·obtain ⟨hc,ha⟩:=Ua ha;simp only [Ac] at hc;obtain ⟨⟨hzl,hzs⟩,hfl⟩:=hc;have hzl:=Ah hzl;have hfl:=Ai hfl;split at ha
        ·rename_i blk hm;obtain ⟨dF,ha⟩:=Ua ha;simp only [Ac,A8] at dF;obtain ⟨hno,dF⟩:=dF;have dF:=Ai dF;simp only [Ab,Aa] at ha;obtain ⟨rfl,rfl⟩:=ha;have hrl:(rep len zero).length =len*i.size:=(by rw [Ks,hzl]);have dZ:Wx ρ (rep len zero) (Builtin.zeroCells z.cells len):=z6k hzr len (len*z.cells.size) (by rw [hzr.1]);have dL: ∀v∈(Builtin.zeroCells z.cells len).toList,v.oneCell'=true:=Za.cells_oneCell dZ (by
          grind [rep])
         obtain ⟨cur,el,hw,hcsz,cV⟩:=h.write hρ hm (off:=off) (cs:=rep len zero) (vs:=(Builtin.zeroCells z.cells len).toList) hno (by simpa using dZ.1.symm) (by grind) (fun j h1 h2=>by simpa using dZ.2 j h1 (by grind));have hst:=run_storeCells_at P l.blk (l.base+off) el (Builtin.zeroCells z.cells len).toList 0 cur w hw (by grind) dL;rw [Bh] at hst;have hne:len≠0:=fun e=>by simp_all
         refine ⟨ρ,.tuple #[],w.setRow l.blk (cur.toList.take (l.base+off)++(Builtin.zeroCells z.cells len).toList ++cur.toList.drop (l.base+off+(Builtin.zeroCells z.cells len).toList.length)).toArray,?_,⟨unit,?_,Ev.ofWrite h hρ hfl _ _⟩,rfl,rfl⟩;all_goals simp_all [Builtin.clear_,run_underlying,St.withMem]
        ·cases ha
     ·cases ha
    ·cases ha
   ·cases ha
 ·cases ha
end
section
variable {P:Program} {ρ:Rho}
structure Yb (floor:Nat) (st st':St):Prop where
 nxt:st.next≤st'.next
 bd:(∀b,st.next≤b→Zt st.mem b=none)→ ∀b,st'.next≤b→Zt st'.mem b=none
 low:floor≤st.next→ ∀b,b<floor→Zt st'.mem b=Zt st.mem b
 ob:st'.ob=true→st.ob=true
theorem Yb.refl (floor:Nat) (st:St):Yb floor st st:=⟨Ao _,fun h=>h,fun _ _ _=>rfl,fun h=>h⟩
theorem Yb.trans {floor:Nat} {a b c:St} (h:Yb floor a b) (k:Yb floor b c):Yb floor a c:=
 ⟨AG h.nxt k.nxt,fun x=>k.bd (h.bd x),fun x d hd=>(k.low (AG x h.nxt) d hd).trans (h.low x d hd),fun x=>h.ob (k.ob x)⟩
theorem Yb.write {floor:Nat} (st:St) {b:Nat} {ab:ABlk} (o:Option ABlk) (hf:floor≤b) (hm:Zt st.mem b=some ab):Yb floor st (st.withMem (Yr st.mem b o)) where
 nxt:=Ao _
 bd h k hk:=by
  have hne:k≠b:=fun e=>by rw [e,] at hk;rw [h b hk] at hm;cases hm
  show Zt (Yr st.mem b o) k=none;rw [Zx _ _ hne];exact h k hk
 low _ k hk:=Zx _ _ (by omega)
 ob h:=h
theorem Yb.new {floor:Nat} (st:St) (cs:List AVal) (ty:TypeId):Yb floor st (z3r st cs ty) where
 nxt:=BO _
 bd h k hk:=by
  have hk':st.next+1≤k:=hk
  show Zt (Yr st.mem st.next _) k=none
  grind [Zx]
 low hf k hk:=Zx _ _ (by omega)
 ob h:=h
def x7k (R:Runner):Prop:= ∀cx todo st st',R cx todo st=some st'→Yb cx.floor st st'
theorem Ys {cx:Ctx} {st st':St} {b:Bool} (h:st.owe cx b=some st'):st'.env=st.env∧st'.mem=st.mem∧st'.next=st.next∧(st'.ob=true→b=true∧st.ob=true):=by
 obtain ⟨env,mem,next,orc,ob⟩:=st
 grind [St.owe]
theorem z0w {st st':St} {b e:Bool} (h:st.test b=(e,st')):st'.env=st.env∧st'.mem=st.mem∧st'.next=st.next∧(st'.ob=true→e=b∧st.ob=true):=by
 obtain ⟨env,mem,next,orc,ob⟩:=st;cases orc with
 | nil=>
  grind [St.test]
 | cons c r=>
  grind [St.test]
theorem Xa {cx:Ctx} {st st':St} {dst:Option Tmp} {v:AVal} (h:st.put cx dst v=some st'):st'.mem=st.mem∧st'.next=st.next∧st'.ob=st.ob∧
  ((dst=none∧st'.env=st.env)∨ ∃d,dst=some d∧d<cx.n∧st'.env=T.set .undef st.env d v):=by
 obtain ⟨env,mem,next,orc,ob⟩:=st;cases dst with
 | none=>
  grind [St.put]
 | some d=>
  simp only [St.put] at h;cases hb:Nat.ble (d+1) cx.n with
  | false=>grind
  | true=>rw [hb,Ag] at h;obtain rfl:=Af h;exact ⟨rfl,rfl,rfl,.inr ⟨d,rfl,Ai hb,rfl⟩⟩
theorem Yb.same {floor:Nat} {st st':St} (hm:st'.mem=st.mem) (hn:st'.next=st.next) (ho:st'.ob=true→st.ob=true):Yb floor st st':=
 ⟨by grind,fun h b hb=>by grind,fun _ b _=>by rw [hm],ho⟩
theorem Zq {α:Type} {c:Bool} {x:Option α} {y:α} (h:(bif c then x else none)=some y):c=true∧x=some y:=by grind
theorem Wk {α:Type} {c:Bool} {x z:Option α} {y:α} (h:(bif c then x else z)=some y):(c=true∧x=some y)∨(c=false∧z=some y):=by grind
theorem w1o {floor:Nat} {st st':St} {t:TypeId} {x v:AVal} (h:y1m P floor st t x v=some st'):Yb floor st st'∧st'.env=st.env:=by
 unfold y1m at h;split at h
 ·obtain ⟨hc,h⟩:=Zq h;simp only [Ac] at hc;split at h
  ·rename_i blk hm;obtain ⟨_,h⟩:=Zq h;obtain rfl:=Af h;exact ⟨Yb.write st _ (Ai hc.1.1.1) hm,rfl⟩
  ·cases h
 ·cases h
theorem x5a {cx:Ctx} {st st':St} {t:TypeId} {x v:AVal} (h:z3q P cx st t x v=some st'):Yb cx.floor st st'∧st'.env=st.env:=by
 unfold z3q at h;split at h
 ·obtain ⟨hc,h⟩:=Zq h;simp only [Ac] at hc;split at h
  ·rename_i blk hm;split at h
   ·split at h
    ·rename_i rw1 st1 eG;obtain ⟨s1,s2,s3,s4⟩:=z2q eG;obtain ⟨o1,o2,o3,o4⟩:=Ys h;have a1:Yb cx.floor st st1:=Yb.same s2 s3 fun x=>(s4 x).2;exact ⟨(a1.trans (Yb.write st1 _ (Ai hc.1.1.1.1) (by rw [s2];exact hm))).trans (Yb.same o2 o3 fun x=>(o4 x).2),o1.trans s1⟩
    ·cases h
   ·cases h
  ·cases h
 ·cases h
theorem y1v {st st':St} {t:TypeId} {len:Nat} {ps:List (Nat×AVal)} {v:AVal} {un:Bool} (floor:Nat) (h:Vg P un st t len ps=some (v,st')):Yb floor st st'∧st'.env=st.env:=by
 unfold Vg at h;split at h
 ·split at h
  ·obtain ⟨_,h⟩:=Zq h;split at h
   ·simp only [Ab,Aa] at h;obtain ⟨_,rfl⟩:=h;exact ⟨Yb.new st _ _,rfl⟩
   ·cases h
  ·cases h
 ·cases h
theorem z2l {st st':St} {t:TypeId} {x y v:AVal} (floor:Nat) (h:We P st t x y=some (v,st')):Yb floor st st'∧st'.env=st.env:=by
 unfold We at h;split at h
 ·split at h
  ·obtain ⟨_,h⟩:=Zq h;simp only [Ab,Aa] at h;obtain ⟨_,rfl⟩:=h;exact ⟨Yb.new st _ _,rfl⟩
  ·cases h
 ·cases h
theorem x5j {floor:Nat} {st st':St} {ts:List TypeId} {xs:List AVal} {v:AVal} (h:Je P floor st ts xs=some (v,st')):Yb floor st st'∧st'.env=st.env:=by
 unfold Je at h;split at h
 ·split at h
  ·split at h
   ·split at h
    ·obtain ⟨_,h⟩:=Zq h;split at h
     ·rcases Wk h with ⟨_,h⟩ | ⟨_,h⟩
      ·grind [Yb.refl]
      ·obtain ⟨_,h⟩:=Zq h;simp only [Ab,Aa] at h;obtain ⟨_,rfl⟩:=h;exact ⟨Yb.new st _ _,rfl⟩
     ·split at h
      ·rename_i blk hm;split at h
       ·obtain ⟨_,h⟩:=Zq h;split at h
        ·rcases Wk h with ⟨_,h⟩ | ⟨_,h⟩
         ·obtain ⟨hc,h⟩:=Zq h;simp only [Ac] at hc;simp only [Ab,Aa] at h;obtain ⟨_,rfl⟩:=h;exact ⟨Yb.write st _ (Ai hc.1) hm,rfl⟩
         ·simp only [Ab,Aa] at h;obtain ⟨_,rfl⟩:=h;exact ⟨Yb.new st _ _,rfl⟩
        ·obtain ⟨hc,h⟩:=Zq h;simp only [Ac] at hc;have hf:=Ai hc.2;rcases Wk h with ⟨_,h⟩ | ⟨_,h⟩
         ·simp only [Ab,Aa] at h;obtain ⟨_,rfl⟩:=h;exact ⟨Yb.write st _ hf hm,rfl⟩
         ·obtain ⟨_,h⟩:=Zq h;simp only [Ab,Aa] at h;obtain ⟨_,rfl⟩:=h;exact ⟨(Yb.write st none hf hm).trans (Yb.new _ _ _),rfl⟩
       ·cases h
      ·cases h
     ·cases h
    ·cases h
   ·cases h
  ·cases h
 ·cases h
theorem Yb.put {floor:Nat} (st:St) (cs:Option ABlk) {st':St} (hm:st'.mem=Yr st.mem st.next cs) (hn:st'.next=st.next+1) (ho:st'.ob=true→st.ob=true):Yb floor st st' where
 nxt:=by grind
 bd h k hk:=by
  grind [Zx]
 low hf k hk:=by grind [Zx]
 ob:=ho
theorem y1p {cx:Ctx} {st st':St} {t:TypeId} {x y v:AVal} (h:Vm P cx st t x y=some (v,st')):Yb cx.floor st st'∧st'.env=st.env:=by
 unfold Vm at h;split at h
 ·split at h
  ·obtain ⟨_,h⟩:=Zq h;simp only [Aj,Aa] at h;obtain ⟨_,h1,_,rfl⟩:=h;obtain ⟨o1,o2,o3,o4⟩:=Ys h1;exact ⟨Yb.put st _ o2 (o3.trans rfl) fun x=>(o4 x).2,o1⟩
  ·cases h
 ·cases h
theorem y9p {cx:Ctx} {st st':St} {ts:List TypeId} {xs:List AVal} {v:AVal} (h:z0i P cx st ts xs=some (v,st')):Yb cx.floor st st'∧st'.env=st.env:=by
 unfold z0i at h;split at h
 ·split at h
  ·split at h
   ·cases h
   ·split at h
    ·split at h
     ·rename_i hm;split at h
      ·obtain ⟨hc,h⟩:=Zq h;simp only [Ac] at hc;simp only [Aj,Aa] at h;obtain ⟨_,h1,_,rfl⟩:=h;obtain ⟨o1,o2,o3,o4⟩:=Ys h1;exact ⟨(Yb.write st none (Ai hc.1.2) hm).trans (Yb.put (st.withMem _) _ o2 (o3.trans rfl) fun x=>(o4 x).2),o1⟩
      ·cases h
     ·cases h
    ·cases h
  ·cases h
 ·cases h
theorem v0p {floor:Nat} {st:St} {sz len:Nat} {x:AVal} {b:Option Nat} {get:Nat→List AVal} {o:Bool} (ht:z1l st.mem sz x=some (b,len,get,o)) (hf:w5o floor b=true):Yb floor st (st.withMem (x3f st.mem b)):=by
 cases b with
 | none=>exact Yb.refl _ _
 | some b=>
  have hm: ∃ab,Zt st.mem b=some ab:=by
   unfold z1l at ht
   grind
  obtain ⟨ab,hm⟩:=hm;exact Yb.write st none (Ai hf) hm
theorem y9o {cx:Ctx} {st st':St} {ts:List TypeId} {xs:List AVal} {v:AVal} (h:Jj P cx st ts xs=some (v,st')):Yb cx.floor st st'∧st'.env=st.env:=by
 unfold Jj at h;split at h
 ·split at h
  ·split at h
   ·split at h
    ·rename_i ht _;obtain ⟨hc,h⟩:=Zq h;simp only [Ac] at hc;simp only [Aj,Aa] at h;obtain ⟨_,h1,_,rfl⟩:=h;obtain ⟨o1,o2,o3,o4⟩:=Ys h1;exact ⟨(v0p ht hc.2).trans (Yb.put (st.withMem _) _ o2 (o3.trans rfl) fun x=>(o4 x).2),o1⟩
    ·cases h
   ·cases h
  ·cases h
 ·cases h
theorem y9q {cx:Ctx} {st st':St} {ts:List TypeId} {xs:List AVal} {v:AVal} (h:Kg P cx st ts xs=some (v,st')):Yb cx.floor st st'∧st'.env=st.env:=by
 unfold Kg at h;rcases Wk h with ⟨_,h⟩ | ⟨_,h⟩
 ·cases h
 rcases Wk h with ⟨_,h⟩ | ⟨_,h⟩;all_goals grind [y9o,y9p,x5j]
theorem w6w {floor:Nat} {st st':St} {ts:List TypeId} {xs:List AVal} {v:AVal} (h:x5g P floor st ts xs=some (v,st')):Yb floor st st'∧st'.env=st.env:=by
 unfold x5g at h;split at h
 ·split at h
  ·split at h
   ·split at h
    ·obtain ⟨_,h⟩:=Zq h;split at h
     ·grind [Yb.refl]
     ·obtain ⟨_,h⟩:=Zq h
      grind [Yb.refl]
     ·dsimp only at h;split at h
      ·rename_i blk hm;obtain ⟨hc,h⟩:=Zq h;simp only [Ac] at hc;simp only [Ab,Aa] at h;obtain ⟨_,rfl⟩:=h;exact ⟨Yb.write st _ (Ai hc.2.1) hm,rfl⟩
      ·cases h
     ·cases h
    ·cases h
   ·cases h
  ·cases h
 ·cases h
theorem w1t {floor:Nat} {st st':St} {ts:List TypeId} {xs:List AVal} {v:AVal} (h:y1t P floor st ts xs=some (v,st')):Yb floor st st'∧st'.env=st.env:=by
 unfold y1t at h;split at h
 ·split at h
  ·split at h
   ·split at h
    ·grind [Yb.refl]
    ·rcases Wk h with ⟨_,h⟩ | ⟨_,h⟩
     ·grind [Yb.refl]
     ·obtain ⟨hc,h⟩:=Zq h;simp only [Ac] at hc;split at h
      ·rename_i blk hm;obtain ⟨_,h⟩:=Zq h;simp only [Ab,Aa] at h;obtain ⟨_,rfl⟩:=h;exact ⟨Yb.write st _ (Ai hc.2) hm,rfl⟩
      ·cases h
    ·cases h
   ·cases h
  ·cases h
 ·cases h
theorem y9k {S:Specs} {R:Runner} (hR:x7k R) {lift:Bool} {f:FuncId} {args:List AVal} {cx:Ctx} {st st':St} {v:AVal} (h:w1u P S R lift f args cx st=some (v,st')):
  (Yb cx.floor st st'∧(lift=true→ ∀b,b<st.next→grOf S f args≠some b→Zt st'.mem b=Zt st.mem b))∧st'.env=st.env:=by
 unfold w1u at h;split at h
 ·rcases Wk h with ⟨_,h⟩ | ⟨_,h⟩
  ·split at h
   ·obtain ⟨_,h⟩:=Zq h;simp only [Aj,Aa] at h
    grind [Ys,Yb.same]
   ·cases h
  ·split at h;split at h
   ·obtain ⟨_,h⟩:=Zq h;simp only [Aj,Aa] at h
    grind [Ys,Yb.same]
   ·cases h
 ·split at h
  ·rename_i v0 b blk o _;split at h
   ·rename_i ab hm;obtain ⟨hc,h⟩:=Zq h;simp only [Ac,A8] at hc;simp only [Aj,Aa] at h;obtain ⟨st1,h1,_,rfl⟩:=h;obtain ⟨e1,e2,e3,e4⟩:=Ys h1;exact ⟨⟨(Yb.write st (some blk) (Ai hc.2) hm).trans (Yb.same e2 e3 fun x=>(e4 x).2),fun hl=>by grind⟩,e1⟩
   ·cases h
  ·cases h
 ·rename_i ty0 F hF;split at h
  ·rename_i b sz n sz' r;split at h
   ·rename_i cells ty A hm;obtain ⟨hc,h⟩:=Zq h;simp only [Ac] at hc;split at h
    ·rename_i n' g o _;simp only [Aj,Aa] at h;obtain ⟨st1,h1,_,rfl⟩:=h;obtain ⟨env,mem,next,orc,ob⟩:=st;simp only at h1 hm ⊢;obtain ⟨e1,e2,e3,e4⟩:=Ys h1;simp only at e1 e2 e3 e4;have hle:=Ai hc.2.2.1;refine ⟨⟨⟨?_,fun hb k hk=> ?_,fun hf k hk=> ?_,fun x=>(e4 x).2⟩,fun _ k hk hn=> ?_⟩,e1⟩;all_goals grind [Zx,grOf]
    ·cases h
   ·cases h
  ·cases h
 ·split at h
  ·split at h
   ·split at h
    ·rename_i st2 hr;split at h
     ·simp only [Ab,Aa] at h;obtain ⟨_,rfl⟩:=h;have q:=hR _ _ _ _ hr;refine ⟨?_,rfl⟩;cases lift with
      | false=>exact ⟨⟨q.nxt,q.bd,q.low,q.ob⟩,fun x=>by cases x⟩
      | true=>refine ⟨⟨q.nxt,q.bd,fun hf b hb=>q.low (Ao _) b (AP hb hf),q.ob⟩,fun _ b hb _=>q.low (Ao _) b hb⟩
     ·cases h
    ·cases h
   ·cases h
  ·cases h
theorem w1q {cx:Ctx} {st st':St} {ts:List TypeId} {b sz off len:Nat} {x v:AVal} (h:z7t P cx st ts b sz off len x=some (v,st')):Yb cx.floor st st'∧st'.env=st.env:=by
 unfold z7t at h;split at h
 ·split at h
  ·split at h
   ·rename_i hm;split at h
    ·obtain ⟨hc,h⟩:=Zq h;simp only [Ac] at hc;simp only [Aj,Aa] at h;obtain ⟨_,h1,_,rfl⟩:=h;obtain ⟨o1,o2,o3,o4⟩:=Ys h1;exact ⟨(Yb.write st _ (Ai hc.1) hm).trans (Yb.same o2 o3 fun x=>(o4 x).2),o1⟩
    ·cases h
   ·cases h
  ·cases h
 ·cases h
theorem w1r {cx:Ctx} {st st':St} {ts:List TypeId} {xs:List AVal} {v:AVal} (h:y3z P cx st ts xs=some (v,st')):Yb cx.floor st st'∧st'.env=st.env:=by
 unfold y3z at h
 grind [w1q,w6w]
theorem y1s {S:Specs} {R:Runner} (hR:x7k R) {lift:Bool} {op:Op} {cx:Ctx} {st st':St} {v:AVal} (h:Xc P S R lift op cx st=some (v,st')):Yb cx.floor st st'∧st'.env=st.env:=by
 unfold Xc at h;split at h
 ·split at h
  ·rename_i hl;obtain ⟨l1,l2,l3,l4⟩:=z0h hl;simp only [Aj,Aa] at h
   grind [Ys,Yb.same]
  ·cases h
 ·simp only [Aj,Aa] at h;obtain ⟨_,_,_,rfl⟩:=h;exact ⟨Yb.new st _ _,rfl⟩
 ·obtain ⟨_,h⟩:=Zq h;simp only [Ab,Aa] at h;obtain ⟨_,rfl⟩:=h;exact ⟨Yb.new st _ _,rfl⟩
 ·exact y1v _ h
 ·split at h
  ·simp only [Aj,Aa] at h
   grind [x5a]
  ·simp only [Aj,Aa] at h
   grind [w1o]
 ·rcases Wk h with ⟨_,h⟩ | ⟨_,h⟩
  ·rcases Wk h with ⟨_,h⟩ | ⟨_,h⟩
   ·have q:=z2l (st:=st.dropO) cx.floor h;exact ⟨⟨q.1.nxt,q.1.bd,q.1.low,q.1.ob⟩,q.2⟩
   ·have q:=y1p (st:=st.dropO) h;exact ⟨⟨q.1.nxt,q.1.bd,q.1.low,q.1.ob⟩,q.2⟩
  ·exact z2l _ h
 all_goals grind [y9q,w1r,w1t,y9k]
def y4a (x:Nat) (st st':St):Prop:=Zt st'.mem x=Zt st.mem x
theorem Vc {x b:Nat} (st:St) (o:Option ABlk) (hn:b≠x):y4a x st (st.withMem (Yr st.mem b o)):=Zx _ _ fun e=>hn e.symm
theorem z1m {x:Nat} (st:St) (cs:List AVal) (ty:TypeId) (hx:x<st.next):y4a x st (z3r st cs ty):=Zx _ _ (Bt hx)
theorem x4z {x:Nat} {floor:Nat} {st st':St} {t:TypeId} {a v:AVal} (h:y1m P floor st t a v=some st') (hn: ∀off,a≠ .ptr x off):y4a x st st':=by
 unfold y1m at h;split at h
 ·rename_i b off _ _;obtain ⟨_,h⟩:=Zq h;split at h
  ·obtain ⟨_,h⟩:=Zq h
   grind [Vc]
  ·cases h
 ·cases h
theorem y9e {x:Nat} {cx:Ctx} {st st':St} {t:TypeId} {a v:AVal} (h:z3q P cx st t a v=some st') (hn: ∀sz r fo,a≠ .epa x sz r fo):y4a x st st':=by
 unfold z3q at h;split at h
 ·rename_i b sz r fo _ _;obtain ⟨_,h⟩:=Zq h;split at h
  ·split at h
   ·split at h
    ·rename_i rw1 st1 eG;obtain ⟨_,s2,_,_⟩:=z2q eG;obtain ⟨_,o2,_,_⟩:=Ys h;unfold y4a;rw [o2,←s2];exact Vc st1 _ fun e=>hn sz r fo (by rw [e])
    ·cases h
   ·cases h
  ·cases h
 ·cases h
theorem z8c {x:Nat} {st st':St} {t:TypeId} {len:Nat} {ps:List (Nat×AVal)} {v:AVal} {un:Bool} (hx:x<st.next) (h:Vg P un st t len ps=some (v,st')):y4a x st st':=by
 unfold Vg at h;split at h
 ·split at h
  ·obtain ⟨_,h⟩:=Zq h
   grind [z1m]
  ·cases h
 ·cases h
theorem z1j {x:Nat} {st st':St} {t:TypeId} {l c v:AVal} (hx:x<st.next) (h:We P st t l c=some (v,st')):y4a x st st':=by
 unfold We at h;split at h
 ·split at h
  ·obtain ⟨_,h⟩:=Zq h
   grind [z1m]
  ·cases h
 ·cases h
theorem y9n {x floor:Nat} {st st':St} {ts:List TypeId} {xs:List AVal} {v:AVal} (hx:x<st.next) (h:Je P floor st ts xs=some (v,st')) (hn: ∀off len cap r,xs≠ .sl x off len cap::r):y4a x st st':=by
 unfold Je at h;split at h
 ·split at h
  ·split at h
   ·split at h
    ·obtain ⟨_,h⟩:=Zq h;split at h
     ·rcases Wk h with ⟨_,h⟩ | ⟨_,h⟩
      ·simp only [Ab,Aa] at h;obtain ⟨_,rfl⟩:=h;rfl
      ·obtain ⟨_,h⟩:=Zq h
       grind [z1m]
     ·have hb:=fun e=>hn _ _ _ _ (AB (fun b=>AVal.sl b _ _ _::_) e);split at h
      ·rename_i blk hm;split at h
       ·obtain ⟨_,h⟩:=Zq h;split at h
        ·rcases Wk h with ⟨_,h⟩ | ⟨_,h⟩
         ·obtain ⟨hc,h⟩:=Zq h
          grind [Vc]
         grind [z1m]
        ·obtain ⟨hc,h⟩:=Zq h;rcases Wk h with ⟨_,h⟩ | ⟨_,h⟩
         ·grind [Vc]
         ·obtain ⟨_,h⟩:=Zq h;simp only [Ab,Aa] at h;obtain ⟨_,rfl⟩:=h;exact (z1m (st.withMem (Yr st.mem _ none)) _ _ hx).trans (Vc st none hb)
       ·cases h
      ·cases h
     ·cases h
    ·cases h
   ·cases h
  ·cases h
 ·cases h
theorem z7z {x:Nat} {cx:Ctx} {st st':St} {t:TypeId} {l c v:AVal} (hx:x<st.next) (h:Vm P cx st t l c=some (v,st')):y4a x st st':=by
 unfold Vm at h;split at h
 ·split at h
  ·obtain ⟨_,h⟩:=Zq h;simp only [Aj,Aa] at h;obtain ⟨_,h1,_,rfl⟩:=h;obtain ⟨_,o2,_,_⟩:=Ys h1
   grind [y4a,Zx]
  ·cases h
 ·cases h
theorem y6k {x:Nat} {cx:Ctx} {st st':St} {ts:List TypeId} {xs:List AVal} {v:AVal} (hx:x<st.next) (h:z0i P cx st ts xs=some (v,st')) (hn: ∀sz off len cap r,xs≠ .sla x sz off len cap::r):y4a x st st':=by
 unfold z0i at h;split at h
 ·have hb:=fun e=>hn _ _ _ _ _ (AB (fun b=>AVal.sla b _ _ _ _::_) e);split at h
  ·split at h
   ·cases h
   ·split at h
    ·split at h
     ·split at h
      ·obtain ⟨hc,h⟩:=Zq h;simp only [Aj,Aa] at h;obtain ⟨_,h1,_,rfl⟩:=h;obtain ⟨_,o2,_,_⟩:=Ys h1
       grind [y4a,Zx]
      ·cases h
     ·cases h
    ·cases h
  ·cases h
 ·cases h
theorem y2d {m:Mem} {sz len b:Nat} {x:AVal} {get:Nat→List AVal} {o:Bool} (ht:z1l m sz x=some (some b,len,get,o)):(∃off len cap,x=.sl b off len cap)∨ ∃sz off len cap,x=.sla b sz off len cap:=by
 unfold z1l at ht
 grind
theorem y6j {x:Nat} {cx:Ctx} {st st':St} {ts:List TypeId} {xs:List AVal} {v:AVal} (hx:x<st.next) (h:Jj P cx st ts xs=some (v,st')) (hn: ∀off len cap r,xs≠ .sl x off len cap::r) (hn2: ∀sz off len cap r,xs≠ .sla x sz off len cap::r):y4a x st st':=by
 unfold Jj at h;split at h
 ·split at h
  ·split at h
   ·split at h
    ·rename_i b len get o1 n g o2 ht _;obtain ⟨hc,h⟩:=Zq h;simp only [Aj,Aa] at h;obtain ⟨_,h1,_,rfl⟩:=h;obtain ⟨_,o2,_,_⟩:=Ys h1;unfold y4a;rw [o2];show Zt (Yr (x3f st.mem b) st.next _) x=_;rw [Zx _ _ (Bt hx)];cases b with
     | none=>rfl
     | some b=>
      refine Zx _ _ fun e=> ?_
      grind [y2d]
    ·cases h
   ·cases h
  ·cases h
 ·cases h
theorem y6l {x:Nat} {cx:Ctx} {st st':St} {ts:List TypeId} {xs:List AVal} {v:AVal} (hx:x<st.next) (h:Kg P cx st ts xs=some (v,st')) (hn: ∀off len cap r,xs≠ .sl x off len cap::r) (hn2: ∀sz off len cap r,xs≠ .sla x sz off len cap::r):y4a x st st':=by
 unfold Kg at h;rcases Wk h with ⟨_,h⟩ | ⟨_,h⟩
 ·cases h
 rcases Wk h with ⟨_,h⟩ | ⟨_,h⟩;all_goals grind [y6j,y6k,y9n]
theorem w1p {x floor:Nat} {st st':St} {ts:List TypeId} {xs:List AVal} {v:AVal} (h:x5g P floor st ts xs=some (v,st')) (hn: ∀off len cap r,xs≠ .sl x off len cap::r):y4a x st st':=by
 unfold x5g at h;split at h
 ·split at h
  ·split at h
   ·split at h
    ·obtain ⟨_,h⟩:=Zq h;split at h
     ·simp only [Ab,Aa] at h;obtain ⟨_,rfl⟩:=h;rfl
     ·obtain ⟨_,h⟩:=Zq h;simp only [Ab,Aa] at h;obtain ⟨_,rfl⟩:=h;rfl
     ·have hb:=fun e=>hn _ _ _ _ (AB (fun b=>AVal.sl b _ _ _::_) e);dsimp only at h;split at h
      ·obtain ⟨hc,h⟩:=Zq h
       grind [Vc]
      ·cases h
     ·cases h
    ·cases h
   ·cases h
  ·cases h
 ·cases h
theorem x5e {x:Nat} {cx:Ctx} {st st':St} {ts:List TypeId} {b sz off len:Nat} {y v:AVal} (h:z7t P cx st ts b sz off len y=some (v,st')) (hn:b≠x):y4a x st st':=by
 unfold z7t at h;split at h
 ·split at h
  ·split at h
   ·split at h
    ·obtain ⟨_,h⟩:=Zq h;simp only [Aj,Aa] at h;obtain ⟨_,h1,_,rfl⟩:=h;obtain ⟨_,o2,_,_⟩:=Ys h1;show Zt _ x=_;rw [o2];exact Vc st _ hn
    ·cases h
   ·cases h
  ·cases h
 ·cases h
theorem x5f {x:Nat} {cx:Ctx} {st st':St} {ts:List TypeId} {xs:List AVal} {v:AVal} (h:y3z P cx st ts xs=some (v,st')) (hn: ∀off len cap r,xs≠ .sl x off len cap::r) (hn2: ∀sz off len cap r,xs≠ .sla x sz off len cap::r) (hn3: ∀sz off len r,xs≠ .slv x sz off len::r):y4a x st st':=by
 unfold y3z at h
 grind [x5e,w1p]
theorem x5h {x floor:Nat} {st st':St} {ts:List TypeId} {xs:List AVal} {v:AVal} (h:y1t P floor st ts xs=some (v,st')) (hn: ∀off len cap r,xs≠ .sl x off len cap::r):y4a x st st':=by
 unfold y1t at h;split at h
 ·split at h
  ·split at h
   ·split at h
    ·simp only [Ab,Aa] at h;obtain ⟨_,rfl⟩:=h;rfl
    ·have hb:=fun e=>hn _ _ _ _ (AB (fun b=>AVal.sl b _ _ _::_) e);rcases Wk h with ⟨_,h⟩ | ⟨_,h⟩
     ·simp only [Ab,Aa] at h;obtain ⟨_,rfl⟩:=h;rfl
     ·obtain ⟨hc,h⟩:=Zq h;split at h
      ·obtain ⟨_,h⟩:=Zq h
       grind [Vc]
      ·cases h
    ·cases h
   ·cases h
  ·cases h
 ·cases h
theorem y9i {S:Specs} {R:Runner} {lift:Bool} {op:Op} {cx:Ctx} {st st':St} {v:AVal} {x:Nat} (hk:Yp op=.chain) (hx:x<st.next) (hn:y6p op st.eval≠some x) (h:Xc P S R lift op cx st=some (v,st')):y4a x st st':=by
 cases op with
 | store t a y=>
  simp only [Xc] at h;split at h
  ·rename_i b sz r fo hb;simp only [Aj,Aa] at h
   grind [y9e,y6p]
  ·simp only [Aj,Aa] at h
   grind [x4z,y6p]
 | box t y=>
  unfold Xc at h;simp only at h;obtain ⟨_,h⟩:=Zq h
  grind [z1m]
 | buildSlice t n ps=>exact z8c hx h
 | makeSlice t l c=>
  unfold Xc at h;simp only at h;rcases Wk h with ⟨_,h⟩ | ⟨_,h⟩
  ·rcases Wk h with ⟨_,h⟩ | ⟨_,h⟩
   ·exact (z1j (st:=st.dropO) hx h)
   ·exact (z7z (st:=st.dropO) hx h)
  ·exact z1j hx h
 | call c=>
  obtain ⟨callee,args,argTypes⟩:=c;cases callee with
  | builtin b=>
   cases b <;> first
    | (simp [Yp] at hk;done)
    | exact y6l hx h (fun off len cap r e=>hn (by simp only [y6p,e])) (fun sz off len cap r e=>hn (by simp only [y6p,e]))
    | exact x5f h (fun off len cap r e=>hn (by simp only [y6p,e])) (fun sz off len cap r e=>hn (by simp only [y6p,e])) (fun sz off len r e=>hn (by simp only [y6p,e]))
    | exact x5h h fun off len cap r e=>hn (by simp only [y6p,e])
  | value f=>simp [Yp] at hk
  | invoke r m=>simp [Yp] at hk
 | _=>simp [Yp] at hk
theorem Vu : ∀(d:Nat) (a:AVal) (u:Value),pf d a=true→Za ρ a u→Za ρ.bare a u
 | 0,_,_,h,_=>by simp [pf] at h
 | d+1,a,u,h,hr=>by
  cases hr with
  | undef=>simp [pf] at h
  | bool=>exact .bool _
  | int=>exact .int _ _
  | str=>exact .str _
  | mapr=>simp [pf] at h
  | ifbt=>exact .ifbt
  | ifbf=>exact .ifbf _ _
  | agg cs vs hl hh=>simp only [pf,Aw] at h;exact .agg cs vs hl fun i h1 h2=>Vu d _ _ (h _ (AU h1)) (hh i h1 h2)
  | tup cs vs hl hh=>simp only [pf,Aw] at h;exact .tup cs vs hl fun i h1 h2=>Vu d _ _ (h _ (AU h1)) (hh i h1 h2)
  | ptr=>simp [pf] at h
  | nilp=>exact .nilp
  | sl=>simp [pf] at h
  | sla=>simp [pf] at h
  | slan=>simp [pf] at h
  | slv=>simp [pf] at h
  | slve=>simp [pf] at h
  | slvn=>simp [pf] at h
  | nnl=>simp [pf] at h
  | epa=>simp [pf] at h
  | nils=>exact .nils
  | fn f cs vs hl hh=>obtain rfl:cs=[]:=List.isEmpty_iff.1 h;exact .fn f [] vs hl fun i h1=>absurd h1 (AA _)
  | nilf=>exact .nilf
  | fnb=>simp [pf] at h
  | yld=>simp [pf] at h
  | ifc=>simp [pf] at h
  | nili=>exact .nili
  | dat len get blk base sz cap val dD hsz hv hh=>exact .dat len get blk base sz cap val dD hsz hv hh
  | datn get=>exact .datn get
  | datz get a c=>exact .datz get a c
  | dptr cs blk base val hv hh=>exact .dptr cs blk base val hv hh
def u2q (P:Program) (f:FuncId) (F:List AVal→Option (AVal×Bool)):Prop:=
 ∀args v,F args=some (v,true)→ ∀(H:Old) (vals:Array Value) (w:World),Xo (Za (Jy H)) args vals.toList→(∀k o,H k=some o→w.heap[k]? =some o)→v5z H→
  Calls P f vals w fun e w'=> ∃H' u,(∀k o,H k=some o→H' k=some o)∧(∀k o,H' k=some o→w'.heap[k]? =some o)∧(∀k,k<w.heap.size→H' k=H k)∧e=.returned u∧Za (Jy H') v u∧RowKit.Below w.heap.size w w'
def y9t (P:Program) (f:FuncId) (F:List AVal→Mem→Option (AVal×Nat×ABlk×Bool)):Prop:=
 ∀args mem v b blk,F args mem=some (v,b,blk,true)→(Zt mem b).isSome =true→ ∀(ρ:Rho) (next floor:Nat) (vals:Array Value) (w:World),floor≤b→Xo (Za ρ) args vals.toList→Rel ρ mem next w→
  Calls P f vals w fun e w'=> ∃u,e=.returned u∧Za ρ v u∧Rel ρ (Yr mem b (some blk)) next w'∧Ev ρ ρ floor mem next (Yr mem b (some blk)) next w w'
def v4b (H:Old) (l:Option Loc):Rho:=⟨fun b=>if b=0 then l else none,H,fun _=>none⟩
def mem1 (ty:TypeId) (sz n:Nat) (get:Nat→List AVal):Mem:=Yr .leaf 0 (some ⟨rows n get,ty,some ⟨sz,n,.flat get⟩⟩)
def GroOk (P:Program) (f:FuncId) (ty:TypeId) (F:Nat→(Nat→List AVal)→List AVal→Option (Nat×(Nat→List AVal)×Bool)):Prop:=
 ∀ (sz n:Nat) (get:Nat→List AVal) (r:List AVal) (n':Nat) (g:Nat→List AVal),F n get r=some (n',g,true)→plR sz n get=true→plR sz n' g=true→1≤sz→ ∀(H:Old) (l:Option Loc) (vals:Array Value) (w:World),
  Xo (Za (v4b H l)) (.sla 0 sz 0 n (.un sz)::r) vals.toList→Rel (v4b H l) (mem1 ty sz n get) 1 w→(∀k o,w.heap[k]? =some o→(∃l0,l=some l0∧l0.blk=k)∨H k=some o)→
  Calls P f vals w fun e w'=> ∃ρ' u m' nx b,e=.returned u∧Za ρ' (.sla b sz 0 n' (.un sz)) u∧Zt m' b=some ⟨rows n' g,ty,some ⟨sz,n',.flat g⟩⟩∧Rel ρ' m' nx w'∧
   (∀k o,H k=some o→ρ'.fz k=some o)∧w.heap.size≤w'.heap.size∧w'.os=w.os∧w'.tape=w.tape∧w'.output=w.output
def SpecOk (P:Program) (f:FuncId):Spec→Prop
 | .val F=>u2q P f F
 | .eff F=>y9t P f F
 | .gro ty F=>GroOk P f ty F
def Zw (P:Program) (S:Specs):Prop:=
 ∀f F,S f=some F→(∃fn,P.funcs[f]? =some fn∧fn.body.isSome=true)∧SpecOk P f F
def u2r (P:Program):Prop:=(P.funcs[v2r]?).isSome =true→ ∀(b:Nat) (p v:Value) (w:World) (l:List UInt8),l.length≤9223372036854775807→w.heap[b]? =some (.cells #[p,v] bldT (0,0))→
 ((v=.slice none 0 0∧l=[])∨ ∃g o c cur,v=.slice (some ⟨g,o,none⟩) l.length c∧l.length≤c∧w.heap[g]? =some (.cells cur bytT (0,0))∧(l≠ []→o+l.length≤cur.size)∧ ∀j x,l[j]? =some x→cur[o+j]? =some (.int .u8 x.toNat))→
 Calls P v2r #[.pointer (some ⟨b,0,none⟩)] w fun e w'=>e=.returned (.string ⟨l.toArray⟩)∧w.heap.size≤w'.heap.size∧
  (∀k o,w.heap[k]? =some o→(∀g o n c,v=.slice (some ⟨g,o,none⟩) n c→g≠k)→w'.heap[k]? =some o)∧w'.os=w.os∧w'.tape=w.tape∧w'.output=w.output
def z2c (P:Program):Prop:=(∀(f:FuncId) (fn:Func),P.funcs[f]? =some fn→fn.body.isSome=true→(fn.name == "runtime.NumGoroutine")=false)∧u2r P
def ROk (P:Program) (R:Runner):Prop:=
 ∀ cx todo st st',cx.floor≤st.next→R cx todo st=some st'→st'.ob=true→ ∀(ρ:Rho) (a:Act) (w:World) (b:Frame) (cs:List Frame),a.defers=[]→Xb ρ st.env cx.n a.tmps→Rel ρ st.mem st.next w→
  ∃ρ' a' todo' w',Steps P (lone (b.at a todo) cs w) (lone {b.at a' todo' with mode:=.returning} cs w')∧a'.defers=[]∧Xb ρ' st'.env cx.n a'.tmps∧Rel ρ' st'.mem st'.next w'∧
   Ev ρ ρ' cx.floor st.mem st.next st'.mem st'.next w w'
theorem y0y : ∀(args:List AVal) (i:Nat) (t:T AVal) (k:Nat),T.get .undef (z6s args i t) k=if i≤k∧k<i+args.length then args.getD (k - i) .undef else T.get .undef t k
 | [],i,t,k=>by rw [Ax (by grind)];rfl
 | a::r,i,t,k=>by
  simp only [z6s];rw [y0y r (i+1) _ k,T.get_set];by_cases h1:k=i
  ·subst h1;rw [Ax (by omega),AD rfl,AD (by simp)];simp
  ·by_cases h2:i+1≤k∧k<i+1+r.length
   ·rw [AD h2,AD (by simp;omega)];have:k - i=(k - (i+1))+1:=(by omega);rw [this];simp
   ·rw [Ax h2,Ax h1,Ax (by simp;omega)]
def y7o (tmps:Array Value):ResultVar→Sem Value
 | .tmp t=>pure (tmps.getD t undef)
 | .cell a t=>do loadVar t (←asAddr (tmps.getD a undef))
theorem x9g (fn:Func) (tmps:Array Value):results fn tmps=(do
  let vs←fn.results.mapM (y7o tmps)
  pure (if h:vs.size=1 then vs[0] else .tuple vs)):=by
 unfold results;have:(fun r:ResultVar=>(match r with | .tmp t=>pure (tmps.getD t undef) | .cell a t=>do loadVar t (←asAddr (tmps.getD a undef)):Sem Value))=y7o tmps:=by
  funext r
  cases r <;> rfl
 rw [←this];rfl
theorem y6e {st:St} {w:World} {tmps:Array Value} {n:Nat} (cZ:Xb ρ st.env n tmps) (cV:Rel ρ st.mem st.next w) {r:ResultVar} {v:AVal} (h:y6f P st r=some v):
  ∃u,Za ρ v u∧(y7o tmps r).run P w=.ok u w:=by
 have get: ∀t,Za ρ (st.tmp t) (tmps.getD t undef):=fun t=>cZ.get t;cases r with
 | tmp t=>simp only [y6f,Ab] at h;subst h;exact ⟨_,get t,rfl⟩
 | cell a t=>
  simp only [y6f] at h;obtain ⟨z,hz,hr⟩:=y1q cV h (get a);refine ⟨z,hz,?_⟩;have ha:=get a;unfold y7o;simp only;generalize tmps.getD a undef=u at ha hr ⊢;unfold x5b at h;split at h
  ·rename_i e;rw [e] at ha;cases ha
   grind [Instr.loadAt,Instr.sureAddr,asAddr]
  ·rename_i e;rw [e] at ha;cases ha
   grind [Instr.loadAt,Instr.sureAddr,asAddr]
  ·cases h
theorem z2k {st:St} {w:World} {tmps:Array Value} {n:Nat} (cZ:Xb ρ st.env n tmps) (cV:Rel ρ st.mem st.next w): ∀{rs:List ResultVar} {vs:List AVal},Vn P st rs=some vs→
  ∃us,Xo (Za ρ) vs us∧(rs.mapM (y7o tmps)).run P w=.ok us w
 | [],vs,h=>by simp only [Vn,Ab] at h;subst h;exact ⟨[],.nil,by simp⟩
 | r::rs,vs,h=>by
  unfold Vn at h;split at h
  ·rename_i v vs' h1 h2;obtain rfl:=Af h;obtain ⟨u,hu,hr⟩:=y6e cZ cV h1;obtain ⟨us,hus,hrs⟩:=z2k cZ cV h2;refine ⟨u::us,.cons hu hus,?_⟩;rw [List.mapM_cons,Sem.run_bind,hr];simp only [Result.andThen_ok,Sem.run_bind,hrs,Sem.run_pure]
  ·cases h
theorem Qh {fn:Func} {st:St} {w:World} {tmps:Array Value} {n:Nat} (cZ:Xb ρ st.env n tmps) (cV:Rel ρ st.mem st.next w) {vs:List AVal} (h:Vn P st fn.results.toList=some vs):
  ∃u,Za ρ (Vt vs) u∧(results fn tmps).run P w=.ok u w:=by
 obtain ⟨us,hus,hr⟩:=z2k cZ cV h;refine ⟨if h:us.toArray.size=1 then us.toArray[0] else .tuple us.toArray,?_,?_⟩
 ·cases hus with
  | nil=>exact .tup [] _ rfl fun i h1 _=>by simp at h1
  | cons h1 hs=>cases hs with
   | nil=>simpa [Vt] using h1
   | cons h2 hs=>have dX:=Xo.cons h1 (Xo.cons h2 hs);have hl:=dX.length;simp only [Vt];rw [dif_neg (by simp)];exact .tup _ _ (by grind) fun i h1 h2=>by simpa using dX.get i h1 (by grind)
 ·rw [x9g,Sem.run_bind,Array.mapM_eq_mapM_toList,Sem.run_map,hr];rfl
theorem y0x {args:List AVal} {vals:Array Value} (h:Xo (Za ρ) args vals.toList) (ntmps:Nat):
  Xb ρ (z6s args 0 .leaf) (Nat.max ntmps args.length) (vals++Array.replicate (ntmps - vals.size) undef):=by
 have hl:args.length=vals.size:=by simpa using h.length
 have hmax:Nat.max ntmps args.length=vals.size+(ntmps - vals.size):=by
  grind
 refine ⟨by grind,fun i=> ?_,fun i hi=> ?_⟩
 ·rw [y0y];by_cases hi:i<args.length
  ·rw [AD (by omega)];have h2:i<vals.toList.length:=by grind
   have:=h.get i hi h2;have e1:args.getD (i - 0) .undef =args[i]:=by simp [hi]
   have e2:(vals++Array.replicate (ntmps - vals.size) undef).getD i undef=vals.toList[i]:=by have h3:i<vals.size:=(by grind);simp [Array.getElem?_append,h3]
   grind
  ·rw [Ax (by omega)];exact .undef _
 ·have hle:args.length≤Nat.max ntmps args.length:=Nat.le_max_right _ _;rw [y0y,Ax (by omega)];rfl
theorem Jm {f:FuncId} {fn:Func} (hN:z2c P) (hf:P.funcs[f]? =some fn) (hb:fn.body.isSome=true) (args:Array Value) (w:World):(callFunc f args).run P w=.ok (.enter f args) w:=by
 have h1: ¬fn.name= "runtime.NumGoroutine" :=by simpa using hN.1 f fn hf hb
 have h2: ¬fn.body=none:=by grind
 simp [callFunc,hf,h1,h2]
theorem y9z {mem:Mem} {next:Nat} {w:World} (h:Rel ρ mem next w) {a a':AVal} {o:Bool} (hv:v6d mem a=(a',o)) (ho:o=true) {u:Value} (hr:Za ρ a u) (hp:pf 3 a'=true):Za (Jy fun k=>w.heap[k]?) a' u:=by
 subst ho;have hle:ρ.bare.le (Jy fun k=>w.heap[k]?):=⟨fun _ _ e=>(by cases e),fun k o e=>h.old k o e,fun _ _ e=>(by cases e)⟩
 unfold v6d at hv;split at hv
 ·rename_i b sz off len cap;split at hv
  ·rename_i blk hm;split at hv
   ·rename_i A hA;simp only [Aa,Ac,Ak] at hv;obtain ⟨rfl,h1,h2,h3⟩:=hv;obtain rfl:=Ah h1;have h3:= @As _ (Classical.propDecidable _) h3;cases hr with
    | slan=>exact .datn _
    | sla _ _ _ _ _ l c hρ dD cW=>
     obtain ⟨dY,eM,dH⟩:=(h.blk b l blk hρ hm).arr A hA;obtain ⟨cur,el,hh,_⟩:=((h.blk b l blk hρ hm).rows hA).cells;refine .dat len _ l.blk (l.base+off*A.sz) A.sz c (fun i j=>(w.cell? ⟨l.blk,l.base+(off+i)*A.sz+j,none⟩).getD undef) cW (fun i hi=>dH _ (by omega)) (fun i j hi hj=> ?_) (fun i j hi hj=> ?_)
     ·obtain ⟨v,e1,e2⟩:=(h.rowAt hρ hm hA (r:=off+i) (by omega)) j hj;simp only [e1,Option.getD_some];exact (Vu 6 _ _ (Aw.1 (h3 (off+i)) _ (AU hj)) e2).mono hle
     ·obtain ⟨v,e1,e2⟩:=(h.rowAt hρ hm hA (r:=off+i) (by omega)) j (by grind);simp only [e1,Option.getD_some];refine ⟨cur,el,(0,0),hh,?_⟩
      grind [World.cell?]
   grind [pf]
  grind [pf]
 ·simp only [Aa] at hv;obtain ⟨rfl,_⟩:=hv;exact (Vu 3 _ _ hp hr).mono hle
theorem x0a {mem:Mem} {next:Nat} {w:World} (h:Rel ρ mem next w) {az:List AVal} {us:List Value} (hr:Xo (Za ρ) az us): ∀{az':List AVal} {o:Bool},w2g mem az=(az',o)→o=true→az'.all (pf 3)=true→Xo (Za (Jy fun k=>w.heap[k]?)) az' us:=by
 induction hr with
 | nil=>intro az' o hv _ _;simp only [w2g,Aa] at hv;obtain ⟨rfl,_⟩:=hv;exact .nil
 | @cons a b l m h1 _ ih=>intro az' o hv ho hp;unfold w2g at hv;split at hv;rename_i a1 o1 as1 q1 e1 e2;simp only [Aa] at hv;obtain ⟨rfl,rfl⟩:=hv;simp only [Ac] at ho;simp only [List.all_cons,Ac] at hp;exact .cons (y9z h e1 ho.1 h1 hp.1) (ih e2 ho.2 hp.2)
theorem x8e {σ:Rho} {v:AVal} {u:Value} (hs:scal v=true) (h:Za σ v u):Za ρ v u:=by
 cases h with
 | bool=>exact .bool _
 | int=>exact .int _ _
 | str=>exact .str _
 | ifbt=>exact .ifbt
 | ifbf=>exact .ifbf _ _
 | tup cs vs hl hh=>
  simp only [scal,Aw] at hs;refine .tup cs vs hl fun i h1 h2=> ?_;have k1:=hs _ (AU h1);have k2:=hh i h1 h2;generalize cs[i]=a at k1 k2;generalize vs[i]=b at k2;cases k2 with
  | undef=>exact .undef _
  | bool=>exact .bool _
  | int=>exact .int _ _
  | str=>exact .str _
  | ifbt=>exact .ifbt
  | ifbf=>exact .ifbf _ _
  | _=>simp at k1
 | _=>simp [scal] at hs
theorem w9r {sz n:Nat} {get:Nat→List AVal} (h:plR sz n get=true): ∀i,i<n→(get i).length =sz∧(get i).all pl=true:= @As _ (Classical.propDecidable _) h
theorem w3m {sz n:Nat} {get:Nat→List AVal} (h:plR sz n get=true): ∀v∈rows n get,pl v=true:=fun v hv=>by
 obtain ⟨i,hi,hv⟩:=Bo.1 hv
 grind [w9r]
theorem pl_any {v:AVal} {u:Value} {ρ':Rho} (h:pl v=true) (hr:Za ρ v u):Za ρ' v u:=by
 cases hr <;> first | exact .bool _ | exact .int _ _ | (cases h;done)
theorem Xq.pl {w:World} {ab:ABlk} {l:Loc} (h:Xq ρ w ab l) (hp: ∀v∈ab.cells,pl v=true) (ρ':Rho):Xq ρ' w ab l:=by
 cases h with
 | plain h=>
  obtain ⟨h0,h1,h2,h3,cs,el,h4,h5,h6⟩:=h;refine .plain ⟨h0,h1,h2,h3,cs,el,h4,h5,fun i hi=> ?_⟩
  grind [pl_any]
 | obj o r ty h n z=>subst h;have:=hp _ (Bf ..);cases this
theorem w5j {f:FuncId} {F:Nat→(Nat→List AVal)→List AVal→Option (Nat×(Nat→List AVal)×Bool)} {ty:TypeId} (hF:GroOk P f ty F) {floor next:Nat} {mem:Mem} {b sz n:Nat} {r:List AVal} {cells:List AVal} {A:Arr} (hm:Zt mem b=some ⟨cells,ty,some A⟩)
  (hA:A.sz=sz∧A.n=n) (hr:r.all (pf 3)=true) (hfl:floor≤b) (hsz:1≤sz) {n':Nat} {g:Nat→List AVal} (hv:F n A.get r=some (n',g,true)) (hp:plR sz n A.get=true) (hp':plR sz n' g=true)
  {vals:Array Value} (cY:Xo (Za ρ) (.sla b sz 0 n (.un sz)::r) vals.toList) {w:World} (cV:Rel ρ mem next w):
  Calls P f vals w fun e w'=> ∃ρ' u,e=.returned u∧Za ρ' (.sla next sz 0 n' (.un sz)) u∧Rel ρ' (Yr (Yr mem b none) next (some ⟨rows n' g,ty,some ⟨sz,n',.flat g⟩⟩)) (next+1) w'∧
   Ev ρ ρ' floor mem next (Yr (Yr mem b none) next (some ⟨rows n' g,ty,some ⟨sz,n',.flat g⟩⟩)) (next+1) w w':=by
 obtain ⟨rfl,rfl⟩:=hA;have hbn:b<next:=by
  rcases AV b next with h | h
  ·exact h
  ·rw [cV.bd b h] at hm;cases hm
 let H:Old:=fun k=>if∃l,ρ b=some l∧l.blk=k then none else w.heap[k]?
 have hH: ∀k,(¬ ∃l,ρ b=some l∧l.blk=k)→H k=w.heap[k]? :=fun k hk=>Ax hk;have hHs: ∀k o,H k=some o→w.heap[k]? =some o∧ ¬ ∃l,ρ b=some l∧l.blk=k:=fun k o e=>by
  by_cases hk: ∃l,ρ b=some l∧l.blk=k;all_goals grind
 have hfz: ∀k o,ρ.fz k=some o→H k=some o:=fun k o e=>by
  rw [hH k fun ⟨l,h1,h2⟩=>by
   have:=cV.sep b l h1 (by rw [hm];rfl)
   grind]
  exact cV.old k o e
 have hbare:ρ.bare.le (v4b H (ρ b)):=⟨fun _ _ e=>(by cases e),hfz,fun _ _ e=>(by cases e)⟩
 have key: ∀(n0:Nat) (u:Value),Za ρ (.sla b A.sz 0 n0 (.un A.sz)) u→Za (v4b H (ρ b)) (.sla 0 A.sz 0 n0 (.un A.sz)) u:=fun n0 u h1=>by
  cases h1 with
  | sla _ _ _ _ _ l c h hc cW=>exact .sla 0 _ 0 _ _ l c (by show (if (0:Nat)=0 then ρ b else none)=_;grind) hc cW
  | slan _ _ _ _=>exact .slan _ _ _ _
 have hargs1:Xo (Za (v4b H (ρ b))) (.sla 0 A.sz 0 A.n (.un A.sz)::r) vals.toList:=by
  generalize vals.toList=us at cY;cases cY with
  | cons h1 h2=>
   refine .cons ?_ ?_
   ·grind
   ·exact Xo.of h2.length fun i g1 g2=>(Vu 3 _ _ (Aw.1 hr _ (AU g1)) (h2.get i g1 g2)).mono hbare
 have hget0: ∀l,v4b H (ρ b) 0=some l↔ρ b=some l:=fun l=>Iff.rfl;have dL: ∀c l,v4b H (ρ b) c=some l→c=0∧ρ b=some l:=fun c l e=>by
  have e:(if c=0 then ρ b else none)=some l:=e
  grind
 have hm1:Zt (mem1 ty A.sz A.n A.get) 0=some ⟨rows A.n A.get,ty,some ⟨A.sz,A.n,.flat A.get⟩⟩:=Zd _ _ _;have dU:Rel (v4b H (ρ b)) (mem1 ty A.sz A.n A.get) 1 w:=by
  refine ⟨fun c l e=>by grind,fun c c' l l' e e' _ _ _=>by grind,fun c l ab e hc=> ?_,fun k o e=>(hHs k o e).1,fun c l e _=> ?_,fun c l e=>cV.real b l (dL c l e).2,fun c hc=> ?_,⟨fun j l e=>(by cases e),cV.ldom.2.mono hfz⟩⟩
  ·obtain ⟨rfl,e2⟩:=dL c l e;rw [hm1] at hc;obtain rfl:=Af hc;have q:=(cV.blk b l _ e2 hm).rows rfl;obtain ⟨q0,q1,q2,q3,cs,el,q4,q5,q6⟩:=q;obtain ⟨a1,a2,a3⟩:=q3 A rfl;simp only at a1;subst a1;have q':Xq ρ w ⟨rows A.n A.get,ty,some ⟨A.sz,A.n,.flat A.get⟩⟩ l:=.plain ⟨q0,q1,q2,fun B e=>by
    obtain rfl:=Af e;exact ⟨rfl,a2,a3⟩,cs,el,q4,q5,q6⟩
   exact q'.pl (w3m hp) _
  ·obtain ⟨_,e2⟩:=dL c l e;exact AD ⟨l,e2,rfl⟩
  ·show Zt (Yr .leaf 0 _) c=none;rw [Zx _ _ (by omega)];rfl
 have dX: ∀k o,w.heap[k]? =some o→(∃l0,ρ b=some l0∧l0.blk=k)∨H k=some o:=fun k o e=>by
  grind
 refine (hF A.sz A.n A.get r n' g hv hp hp' hsz H (ρ b) vals w hargs1 dU dX).mono fun e w' ⟨ρ1,u,m',nx,b1,he,hu,hmb,hr1,hfz1,eQ,hos,htape,hout⟩=> ?_;have hgone: ∀k,(¬ ∃l,ρ b=some l∧l.blk=k)→ ∀o,w.heap[k]? =some o→w'.heap[k]? =some o∧ρ1.fz k=some o:=fun k hk o e=>by have h2:=hfz1 k o ((hH k hk).trans e);exact ⟨hr1.old k o h2,h2⟩
 let ρ':Rho:=⟨fun c=>if c=next then ρ1 b1 else ρ c,ρ.fz,ρ.lp⟩
 have dC: ∀c l,ρ' c=some l→(c=next∧ρ1 b1=some l)∨(c≠next∧ρ c=some l):=fun c l e=>by
  grind
 have hnew:ρ' next=ρ1 b1:=AD rfl
 have holdc: ∀c,c<next→ρ' c=ρ c:=fun c hc=>Ax (by omega)
 have hle:ρ.le ρ':=⟨fun c l e=>by rw [holdc c (cV.dom c l e)];exact e,fun _ _ e=>e,fun _ _ e=>e⟩
 have hm': ∀c,c≠next→Zt (Yr (Yr mem b none) next (some ⟨rows n' g,ty,some ⟨A.sz,n',.flat g⟩⟩)) c=if c=b then none else Zt mem c:=fun c hc=>by
  grind [Zx,Zd]
 have hmn:Zt (Yr (Yr mem b none) next (some ⟨rows n' g,ty,some ⟨A.sz,n',.flat g⟩⟩)) next=some ⟨rows n' g,ty,some ⟨A.sz,n',.flat g⟩⟩:=Zd _ _ _
 have hother: ∀c l,ρ c=some l→(Zt mem c).isSome =true→c≠b→ ¬ ∃l',ρ b=some l'∧l'.blk=l.blk:=fun c l e hs hcb ⟨l',e',hb⟩=>hcb (cV.inj c b l l' e e' hb.symm hs (by rw [hm];rfl));have eZ: ∀c l,ρ c=some l→ ∃o,w.heap[l.blk]? =some o:=fun c l e=>⟨_,Bs (cV.real c l e)⟩
 have hsepn: ∀l,ρ1 b1=some l→ρ1.fz l.blk=none:=fun l e=>hr1.sep b1 l e (by rw [hmb];rfl);have dK:Za ρ' (.sla next A.sz 0 n' (.un A.sz)) u:=by
  cases hu with
  | sla _ _ _ _ _ l c h hc cW=>exact .sla next _ 0 _ _ l c (hnew.trans h) hc cW
  | slan _ _ _ _=>exact .slan _ _ _ _
 refine ⟨ρ',u,he,dK,?_,?_⟩
 ·refine ⟨fun c l e=> ?_,fun c c' l l' e e' hbl hs hs'=> ?_,fun c l ab e hc=> ?_,fun k o e=> ?_,fun c l e hs=> ?_,fun c l e=> ?_,fun c hc=> ?_,⟨fun j l e=>Bb (cV.ldom.1 j l e),cV.ldom.2⟩⟩
  ·rcases dC c l e with ⟨rfl,_⟩ | ⟨_,e⟩
   ·omega
   ·have:=cV.dom c l e;omega
  ·have clash: ∀c l l',c≠next→ρ c=some l→ρ1 b1=some l'→l.blk=l'.blk→(Zt (Yr (Yr mem b none) next (some ⟨rows n' g,ty,some ⟨A.sz,n',.flat g⟩⟩)) c).isSome =true→False:=fun c l l' hc e e' hbl hs=>by
    grind
   rcases dC c l e with ⟨h1,h2⟩ | ⟨h1,h2⟩ <;> rcases dC c' l' e' with ⟨h1',h2'⟩ | ⟨h1',h2'⟩
   ·rw [h1,h1']
   ·grind
   ·grind
   ·rw [hm' c h1] at hs;rw [hm' c' h1'] at hs';by_cases hcb:c=b
    ·grind
    ·by_cases hcb':c'=b
     ·grind
     ·rw [Ax hcb] at hs;rw [Ax hcb'] at hs';exact cV.inj c c' l l' h2 h2' hbl hs hs'
  ·rcases dC c l e with ⟨h1,h2⟩ | ⟨h1,h2⟩
   ·subst h1;rw [hmn] at hc;obtain rfl:=Af hc;have q:=(hr1.blk b1 l _ h2 hmb).pl (w3m hp') ρ';exact .plain ⟨(q.rows rfl).typ,q.n,q.tot,q.arr,(q.rows rfl).cells⟩
   ·rw [hm' c h1] at hc;by_cases hcb:c=b
    ·grind
    ·rw [Ax hcb] at hc;obtain ⟨o,ho⟩:=eZ c l h2;refine (cV.blk c l ab h2 hc).world hle ?_;rw [(hgone l.blk (hother c l h2 (by rw [hc];rfl) hcb) o ho).1,ho]
  ·have h1:=hfz k o e;obtain ⟨h2,h3⟩:=hHs k o h1;exact (hgone k h3 o h2).1
  ·rcases dC c l e with ⟨h1,h2⟩ | ⟨h1,h2⟩
   ·cases hq:ρ.fz l.blk with
    | none=>rfl
    | some o=>
     grind
   ·rw [hm' c h1] at hs;by_cases hcb:c=b
    ·grind
    ·rw [Ax hcb] at hs;exact cV.sep c l h2 hs
  ·rcases dC c l e with ⟨h1,h2⟩ | ⟨h1,h2⟩
   ·exact hr1.real b1 l h2
   grind
  ·rw [hm' c (by omega),Ax (by omega)];exact cV.bd c (by omega)
 ·refine ⟨hle,fun c hc=>holdc c hc,by omega,fun c hc hn cs ty2 hq=> ?_,fun k o hk hn=> ?_,fun c l hc e=> ?_,eQ,hos,htape,hout,fun k _=>rfl⟩
  ·grind
  ·exact (hgone k (fun ⟨l,h1,h2⟩=>hn b l h1 hfl h2) o hk).1
  ·rcases dC c l e with ⟨h1,h2⟩ | ⟨h1,h2⟩
   ·rcases AV l.blk w.heap.size with h | h
    ·rcases dX l.blk _ (Bs h) with ⟨l0,h3,h4⟩ | h3;all_goals grind
    grind
   grind
theorem y1u {S:Specs} {R:Runner} (hS:Zw P S) (hR:ROk P R) {lift:Bool} {f:FuncId} {args:List AVal} {cx:Ctx} {st st':St} {v:AVal} (hcx:cx.floor≤st.next) (h:w1u P S R lift f args cx st=some (v,st')) (hob:st'.ob=true)
  {vals:Array Value} (cY:Xo (Za ρ) args vals.toList) {w:World} (cV:Rel ρ st.mem st.next w):
  (∃fn,P.funcs[f]? =some fn∧fn.body.isSome=true)∧Calls P f vals w fun e w'=> ∃ρ' u,e=.returned u∧y2l ρ cx.floor st st' v w ρ' u w':=by
 unfold w1u at h;split at h
 ·rename_i F hF;rcases Wk h with ⟨hca,h⟩ | ⟨_,h⟩
  ·split at h
   ·rename_i v' b hFa;obtain ⟨hc2,h⟩:=Zq h;have hc1:=Aw.1 hca;simp only [Aj,Aa] at h;obtain ⟨st1,h1,rfl,rfl⟩:=h;obtain ⟨_,e2,e3,e4⟩:=Ys h1;obtain ⟨rfl,_⟩:=e4 hob;obtain ⟨hfn,dI⟩:=hS f _ hF;refine ⟨hfn,?_⟩;have hargs0:Xo (Za ρ.bare) args vals.toList:=Xo.of cY.length fun i g1 g2=>Vu 3 _ _ (hc1 _ (AU g1)) (cY.get i g1 g2);refine (dI args v' hFa ρ.fz vals w hargs0 cV.old cV.ldom.2).mono fun e w' ⟨H',u,hle,hold,dG,he,hv,hb⟩=>⟨⟨ρ.f,H',ρ.lp⟩,u,he,Za.mono (ρ:=Jy H') (ρ':=⟨ρ.f,H',ρ.lp⟩) ⟨fun _ _ e=>(by cases e),fun _ _ e=>e,fun _ _ e=>(by cases e)⟩ hv,?_,?_⟩
    ·rw [e2,e3];have hle':ρ.le ⟨ρ.f,H',ρ.lp⟩:=⟨fun _ _ e=>e,hle,fun _ _ e=>e⟩
     exact ⟨cV.dom,cV.inj,fun b l ab q1 q2=>(cV.blk b l ab q1 q2).world hle' (hb.block _ (cV.real b l q1)),hold,fun b l q hs=>(dG _ (cV.real b l q)).trans (cV.sep b l q hs),fun b l q=>AP (cV.real b l q) hb.size,cV.bd,cV.ldom.1,cV.ldom.2.mono hle⟩
    ·rw [e2,e3];exact ⟨⟨fun _ _ e=>e,hle,fun _ _ e=>e⟩,fun _ _=>rfl,Ao _,fun _ _ _ _ _ h=>h,fun k o hk _=>by rw [hb.block k (AC.1 hk).1];exact hk,
      fun b l hb' hl=>by grind,hb.size,hb.os,hb.tape,hb.output,dG⟩
   ·cases h
  ·split at h;rename_i args' o hview;split at h
   ·rename_i v' b hFa;obtain ⟨hc,h⟩:=Zq h;simp only [Ac] at hc;simp only [Aj,Aa] at h;obtain ⟨st1,h1,rfl,rfl⟩:=h;obtain ⟨_,e2,e3,e4⟩:=Ys h1;obtain ⟨hob1,_⟩:=e4 hob;simp only [Ac] at hob1;obtain ⟨ho,rfl⟩:=hob1;obtain ⟨hfn,dI⟩:=hS f _ hF;refine ⟨hfn,?_⟩;have hargs0:=x0a cV cY hview ho hc.1;refine (dI args' v' hFa (fun k=>w.heap[k]?) vals w hargs0 (fun _ _ e=>e) (cV.ldom.2.mono cV.old)).mono fun e w' ⟨H',u,hle,hold,dG,he,hv,hb⟩=>⟨ρ,u,he,x8e hc.2 hv,?_,?_⟩
    ·rw [e2,e3];exact ⟨cV.dom,cV.inj,fun b l ab q1 q2=>(cV.blk b l ab q1 q2).world (Rho.le_refl _) (hb.block _ (cV.real b l q1)),fun k o q=>by rw [hb.block k (AC.1 (cV.old k o q)).1];exact cV.old k o q,cV.sep,fun b l q=>AP (cV.real b l q) hb.size,cV.bd,cV.ldom⟩
    ·rw [e2,e3];exact ⟨Rho.le_refl _,fun _ _=>rfl,Ao _,fun _ _ _ _ _ h=>h,fun k o hk _=>by grind,
      fun b l hb' hl=>by grind,hb.size,hb.os,hb.tape,hb.output,fun _ _=>rfl⟩
   ·cases h
 ·rename_i F hF;split at h
  ·rename_i v0 b blk o hFa;split at h
   ·rename_i ab hm;obtain ⟨hc,h⟩:=Zq h;simp only [Ac] at hc;simp only [Aj,Aa] at h;obtain ⟨st1,h1,rfl,rfl⟩:=h;obtain ⟨_,e2,e3,e4⟩:=Ys h1;obtain ⟨rfl,_⟩:=e4 hob;obtain ⟨hfn,dI⟩:=hS f _ hF;refine ⟨hfn,?_⟩;refine (dI args st.mem v0 b blk hFa (by rw [hm];rfl) ρ st.next cx.floor vals w (Ai hc.2) cY cV).mono fun e w' ⟨u,he,hv,hr,hev⟩=>⟨ρ,u,he,hv,?_,?_⟩
    ·rw [e2,e3];exact hr
    ·rw [e2,e3];exact hev
   ·cases h
  ·cases h
 ·rename_i ty0 F hF;split at h
  ·rename_i b sz n sz' r;split at h
   ·rename_i cells ty A hm;obtain ⟨hc,h⟩:=Zq h;simp only [Ac] at hc;obtain ⟨⟨c0,c1,c2⟩,c4,c5,c6⟩:=hc;have c0:=Ah c0;split at h
    ·rename_i n' g o hFa;simp only [Aj,Aa] at h;obtain ⟨st1,h1,rfl,rfl⟩:=h;obtain ⟨env,mem,next,orc,ob⟩:=st;simp only at h1 hm hcx cV ⊢;obtain ⟨_,e2,e3,e4⟩:=Ys h1;obtain ⟨hob1,_⟩:=e4 hob;simp only [Ac] at hob1;obtain ⟨rfl,c3,hp,hp'⟩:=hob1;obtain ⟨hfn,dI⟩:=hS f _ hF;rw [←c0] at dI;obtain rfl:=Ah c1;refine ⟨hfn,?_⟩;refine (w5j dI hm ⟨Ah c2,Ah c3⟩ c4 (Ai c5) (Ai c6) hFa hp hp' cY cV).mono fun e w' ⟨ρ',u,he,hv,hr,hev⟩=>⟨ρ',u,he,hv,?_,?_⟩
     all_goals grind
    ·cases h
   ·cases h
  ·cases h
 ·split at h
  ·rename_i fn hf;split at h
   ·rename_i body hb;split at h
    ·rename_i st2 hr;split at h
     ·rename_i vs hvs;simp only [Ab,Aa] at h;obtain ⟨rfl,rfl⟩:=h;refine ⟨⟨fn,hf,by rw [hb];rfl⟩,?_⟩;intro cs
      let b:Frame:={(default:Frame) with fn:=f,kind:=.normal}
      have eR:Frame.enter P f vals .normal =b.at {tmps:=vals++Array.replicate (fn.ntmps - vals.size) undef,defers:=[]} [.code body]:=by simp [Frame.enter,Frame.at,hf,hb,b]
      obtain ⟨ρ',a',todo',w',dN,hd,cZ,dP,hev⟩:=hR _ _ _ _ (by
       cases lift with
       | false=>exact hcx
       | true=>exact Ao _) hr hob ρ {tmps:=vals++Array.replicate (fn.ntmps - vals.size) undef,defers:=[]} w b cs rfl (y0x cY fn.ntmps) cV
      obtain ⟨u,hu,eX⟩:=Qh cZ dP hvs;rw [←eR] at dN;refine ⟨.returned u,w',_,⟨ρ',u,rfl,hu,dP,?_⟩,dN,rfl,rfl,hd,rfl,fn,hf,eX⟩;refine hev.lower ?_
      grind
     ·cases h
    ·cases h
   ·cases h
  ·cases h
theorem y6h {S:Specs} {R:Runner} (hN:z2c P) (hS:Zw P S) (hR:ROk P R) {lift:Bool} {o:Oper} {cx:Ctx} {st st':St} {v:AVal} (hcx:cx.floor≤st.next)
  (h:Xc P S R lift o.op cx st=some (v,st')) (hob:st'.ob=true) {ev:Operand→AVal} (hev: ∀x,x∈o.op.operands→ev x=st.eval x) {a:Act} (hr:Vr ρ ev a.eval o.op) {w:World} (cV:Rel ρ st.mem st.next w):
  u2y P o a w (y2l ρ cx.floor st st' v w):=by
 obtain ⟨dst,op,type,pos,after,guard⟩:=o;simp only at h hr hev
 replace hr:Vr ρ st.eval a.eval op:=fun x hx=>by rw [←hev x hx];exact hr x hx
 clear hev;unfold Xc at h;split at h
 ·rename_i t x;split at h
  ·rename_i v' b st0 hv;obtain ⟨l1,l2,l3,l4⟩:=z0h hv;simp only [Aj,Aa] at h;obtain ⟨st1,h1,rfl,rfl⟩:=h;obtain ⟨e1,e2,e3,e4⟩:=Ys h1;obtain ⟨rfl,hob0⟩:=e4 hob;obtain ⟨z,hz,cX⟩:=z7r cV (l4 hob0).1 (hr x (by simp [Op.operands]));exact .inl ⟨ρ,z,w,by simp [execOp,cX],hz,by grind,by rw [e2,e3,l2,l3];exact Ev.refl _ _ _ _ _ cV.dom⟩
  ·cases h
 ·rename_i t;simp only [Aj,Aa] at h;obtain ⟨z,hz,rfl,rfl⟩:=h;obtain ⟨_,zv,_,_,hzr,hzv⟩:=Xv (ρ:=ρ) hz;refine .inl ⟨_,.pointer (some ⟨w.heap.size,0,none⟩),_,?_,z1r cV cx.floor z t zv.cells t (by rw [hzr.1];grind) hzr.2 _ _ fun ρ' hρ'=>.ptr _ 0 _ hρ'⟩;simp_all [execOp,Instr.alloc,newVar,newRow]
 ·rename_i t x;obtain ⟨hbx,h⟩:=Zq h;simp only [Ab,Aa] at h;obtain ⟨rfl,rfl⟩:=h;have hc:=(hr x (by simp [Op.operands])).cells hbx;refine .inl ⟨_,.pointer (some ⟨w.heap.size,0,none⟩),_,?_,z1r cV cx.floor _ t (a.eval x).cells t (by rw [hc.1];grind) hc.2 _ _ fun ρ' hρ'=>.ptr _ 0 _ hρ'⟩;simp [execOp,Instr.box,newVar,newRow]
 ·rename_i t len parts;obtain ⟨ρ',u,w',cX,hp,_,_⟩:=z7a cV cx.floor h (Qn parts.toList fun p hp=>hr p.2 (by grind [Op.operands]));refine .inl ⟨ρ',u,w',?_,hp⟩;have:(parts.map fun (i,x)=>(i,a.eval x))=(parts.toList.map fun p=>(p.1,a.eval p.2)).toArray :=by
   grind
  simp [execOp,this,cX]
 ·rename_i t x y;split at h
  ·rename_i b sz r fo hb;simp only [Aj,Aa] at h;obtain ⟨st1,h,rfl,rfl⟩:=h;have hx:=hr x (by simp [Op.operands]);rw [hb] at hx;obtain ⟨w',cX,hp⟩:=y6d cV h hob hx (hr y (by simp [Op.operands]));exact .inr (.inl ⟨ρ,w',by simp [execOp,cX],hp⟩)
  ·simp only [Aj,Aa] at h;obtain ⟨st1,h,rfl,rfl⟩:=h;obtain ⟨w',cX,hp,_,_⟩:=y9d cV h (hr x (by simp [Op.operands])) (hr y (by simp [Op.operands]));exact .inr (.inl ⟨ρ,w',by simp [execOp,cX],hp⟩)
 ·rename_i t l c;rcases Wk h with ⟨_,h⟩ | ⟨_,h⟩
  ·rcases Wk h with ⟨_,h⟩ | ⟨_,h⟩
   ·obtain ⟨ρ',u,w',cX,hp,_,_⟩:=Us (st:=st.dropO) cV cx.floor h (hr l (by simp [Op.operands])) (hr c (by simp [Op.operands]));exact .inl ⟨ρ',u,w',by simp [execOp,cX],hp.val,hp.rel,hp.ev⟩
   ·obtain ⟨ρ',u,w',cX,hp⟩:=z6x (st:=st.dropO) cV h hob (hr l (by simp [Op.operands])) (hr c (by simp [Op.operands]));exact .inl ⟨ρ',u,w',by simp [execOp,cX],hp.val,hp.rel,hp.ev⟩
  ·obtain ⟨ρ',u,w',cX,hp,_,_⟩:=Us cV cx.floor h (hr l (by simp [Op.operands])) (hr c (by simp [Op.operands]));exact .inl ⟨ρ',u,w',by simp [execOp,cX],hp⟩
 ·rename_i args argTypes;have cY:Xo (Za ρ) (args.toList.map st.eval) (args.map a.eval).toList :=by rw [Bg];exact Xo.maps _ _ _ fun x hx=>hr x (by grind [Op.operands,Call.operands])
  unfold Kg at h;rcases Wk h with ⟨_,h⟩ | ⟨hty,h⟩
  ·cases h
  rw [Bool.not_eq_false'] at hty;rcases Wk h with ⟨_,h⟩ | ⟨_,h⟩
  ·obtain ⟨ρ',u,w',cX,hp⟩:=y2k (type:=type) cV h hob cY hty;exact .inl ⟨ρ',u,w',by simp_all [execOp,resolve,invoke,builtin],hp⟩
  split at h
  ·rename_i hxs;obtain ⟨ρ',u,w',cX,hp,_⟩:=z2m (type:=type) cV h hob (hxs ▸ cY) (by rw [hxs] at hty;exact hty);exact .inl ⟨ρ',u,w',by simp_all [execOp,resolve,invoke,builtin],hp⟩
  ·obtain ⟨ρ',u,w',cX,hp,_,_⟩:=Ju (type:=type) cV cx.floor h cY hty;exact .inl ⟨ρ',u,w',by simp_all [execOp,resolve,invoke,builtin],hp⟩
 ·rename_i args argTypes;have cY:Xo (Za ρ) (args.toList.map st.eval) (args.map a.eval).toList :=by rw [Bg];exact Xo.maps _ _ _ fun x hx=>hr x (by grind [Op.operands,Call.operands])
  unfold y3z at h;split at h
  ·rename_i b sz off len cap x xs hxs;obtain ⟨ρ',u,w',cX,hp⟩:=z7s (type:=type) (d:=.sla b sz off len cap) cV h hob (hxs ▸ cY) fun u hu=>by
    cases hu with
    | sla _ _ _ _ _ l c hρ _ cW=>grind
    | slan=>grind
   exact .inl ⟨ρ',u,w',by simp_all [execOp,resolve,invoke,builtin],hp⟩
  ·rename_i b sz off len x xs hxs;obtain ⟨ρ',u,w',cX,hp⟩:=z7s (type:=type) (d:=.slv b sz off len) cV h hob (hxs ▸ cY) fun u hu=>by
    cases hu with
    | slv _ _ _ _ l c hρ cW=>grind
    | slve _ _ _ blk base c=>grind
    | slvn=>grind
   exact .inl ⟨ρ',u,w',by simp_all [execOp,resolve,invoke,builtin],hp⟩
  ·obtain ⟨ρ',u,w',cX,hp,_,_⟩:=x5d (type:=type) cV cx.floor h cY;exact .inl ⟨ρ',u,w',by simp_all [execOp,resolve,invoke,builtin],hp⟩
 ·rename_i args argTypes;have cY:Xo (Za ρ) (args.toList.map st.eval) (args.map a.eval).toList :=by rw [Bg];exact Xo.maps _ _ _ fun x hx=>hr x (by grind [Op.operands,Call.operands])
  obtain ⟨ρ',u,w',cX,hp,_,_⟩:=y9j (type:=type) cV cx.floor h cY;exact .inl ⟨ρ',u,w',by simp_all [execOp,resolve,invoke,builtin],hp⟩
 ·rename_i f args argTypes;split at h
  ·rename_i g caps hg;have hf:=hr f (by simp [Op.operands,Call.operands]);rw [hg] at hf;generalize hw:a.eval f=u at hf;cases hf with
   | fn _ _ cvs hl hh=>
    have cY:Xo (Za ρ) (args.toList.map st.eval++caps) (args.map a.eval++cvs).toList :=by rw [Array.toList_append,Bg];exact Xo.append (Xo.maps _ _ _ fun x hx=>hr x (by grind [Op.operands,Call.operands])) (Xo.of (by grind) fun i h1 h2=>by grind)
    obtain ⟨⟨fn,hfn,hb⟩,hc⟩:=y1u hS hR hcx h hob cY cV;refine .inr (.inr ⟨g,args.map a.eval++cvs,?_,hc⟩);simp_all [Jm,execOp,resolve,Deferred.ofValue,invoke]
  ·rename_i g first hg
   have hf:=hr f (by simp [Op.operands,Call.operands]);rw [hg] at hf;generalize hw:a.eval f=u at hf;cases hf with
   | fnb _ _ cvs hl hh=>
    have cY:Xo (Za ρ) (first++args.toList.map st.eval) (cvs++args.map a.eval).toList :=by rw [Array.toList_append,Bg];exact Xo.append (Xo.of (by grind) fun i h1 h2=>by grind) (Xo.maps _ _ _ fun x hx=>hr x (by grind [Op.operands,Call.operands]))
    obtain ⟨⟨fn,hfn,hb⟩,hc⟩:=y1u hS hR hcx h hob cY cV;refine .inr (.inr ⟨g,cvs++args.map a.eval,?_,hc⟩);simp_all [Jm,execOp,resolve,Deferred.ofValue,invoke]
  ·cases h
 ·cases h
end
section
variable {P:Program} {ρ:Rho}
theorem Xb.congr {env env':T AVal} {n:Nat} {tmps:Array Value} (h:Xb ρ env n tmps) (he: ∀t,T.get .undef env' t=T.get .undef env t):Xb ρ env' n tmps:=
 ⟨h.size,fun i=>by rw [he];exact h.get i,fun i hi=>by rw [he];exact h.out i hi⟩
theorem Xb.eval {st:St} {n:Nat} {a:Act} (h:Xb ρ st.env n a.tmps) (x:Operand):Za ρ (st.eval x) (a.eval x):=by
 cases x with
 | tmp t=>exact h.get t
 | const v=>exact w4n v
 | global g=>exact .undef _
 | func f=>exact .fn f [] #[] rfl fun i h1 _=>by simp at h1
theorem Xb.put {env env':T AVal} {n:Nat} {a:Act} (h:Xb ρ env n a.tmps) {dst:Option Tmp} {v:AVal} {u:Value} (hv:Za ρ v u)
  (hp:(dst=none∧env'=env)∨ ∃d,dst=some d∧d<n∧env'=T.set .undef env d v):Xb ρ env' n (a.put dst u).tmps :=by
 rcases hp with ⟨rfl,rfl⟩ | ⟨d,rfl,hd,rfl⟩
 ·exact h
 ·have hsz:=h.size;refine ⟨by simp [Act.put,hsz],fun i=> ?_,fun i hi=> ?_⟩
  ·rw [T.get_set];by_cases hi:i=d
   ·simp_all [Act.put]
   ·rw [Ax hi];have:=h.get i
    simpa [Act.put,Array.getElem?_setIfInBounds_ne (Ne.symm hi)] using this
  ·rw [T.get_set,Ax (Nat.ne_of_gt (AP hd hi))];exact h.out i hi
theorem Act.put_defers' (a:Act) (dst:Option Tmp) (v:Value):(a.put dst v).defers =a.defers:=by cases dst <;> rfl
theorem w1n {ops:Array Oper} {o:Oper} {cx:Ctx} {st st':St} {e:Bool} (h:z6d ops o cx st=some (e,st')):st'.mem=st.mem∧st'.next=st.next∧(st'.ob=true→st.ob=true∧ ∀t,st'.tmp t=st.tmp t):=by
 unfold z6d at h;split at h
 ·grind
 ·split at h
  ·cases h
  ·rename_i d hd;split at h
   ·rename_i b hb;split at h;rename_i e1 st1 ht;split at h
    ·rename_i st2 hp;simp only [Ab,Aa] at h;obtain ⟨_,rfl⟩:=h;obtain ⟨t1,t2,t3,t4⟩:=z0w ht;obtain ⟨p1,p2,p3,p4⟩:=Xa hp;refine ⟨p1.trans t2,p2.trans t3,fun ho=> ?_⟩;rw [p3] at ho;obtain ⟨rfl,ho⟩:=t4 ho;refine ⟨ho,fun t=> ?_⟩;rcases p4 with ⟨e,_⟩ | ⟨d',e,_,he⟩
     ·cases e
     ·obtain rfl:=Af e;show T.get .undef st2.env t=T.get .undef st.env t;rw [he,t1,T.get_set];split
      ·rename_i h;subst h;exact hb.symm
      ·rfl
    ·cases h
   all_goals grind
def Wc (ops:Array Oper) (o:Oper):Option Tmp:=o.guard.bind fun g=>(ops[g.1]?).bind (·.dst)
theorem x4y {ops:Array Oper} {o:Oper} {cx:Ctx} {st st':St} {e:Bool} (h:z6d ops o cx st=some (e,st')) (ho:st'.ob=true) {tmps:Array Value} (hsz:tmps.size=cx.n)
  (hr: ∀d,Wc ops o=some d→Za ρ (st.tmp d) (tmps.getD d undef)):Region.wanted o (yielded ops tmps)=e:=by
 unfold z6d at h;unfold Region.wanted;split at h
 ·grind
 ·rename_i j want hg;rw [hg];simp only;split at h
  ·cases h
  ·rename_i d hd;have hrd:=hr d (by simp [Wc,hg,hd]);split at h
   ·rename_i b hb;split at h;rename_i e1 st1 ht;split at h
    ·rename_i st2 hp;simp only [Ab,Aa] at h;obtain ⟨rfl,rfl⟩:=h;obtain ⟨_,_,_,t4⟩:=z0w ht;obtain ⟨_,_,p3,p4⟩:=Xa hp;rw [p3] at ho;obtain ⟨rfl,_⟩:=t4 ho;rcases p4 with ⟨e,_⟩ | ⟨d',e,hlt,_⟩
     ·cases e
     ·obtain rfl:=Af e;rw [hb] at hrd;have hlt':d<tmps.size:=(by grind);have dC:tmps.getD d undef=tmps[d]:=(by simp [hlt']);rw [dC] at hrd;have:yielded ops tmps j=some e1:=by unfold yielded;rw [hd];simp only [Option.bind_some,Bs hlt'];generalize tmps[d]=u at hrd;cases hrd;rfl
      grind
    ·cases h
   ·rename_i hb;simp only [Ab,Aa] at h;obtain ⟨rfl,rfl⟩:=h;rw [hb] at hrd;have:yielded ops tmps j=none:=by
     unfold yielded;rw [hd];simp only [Option.bind_some];by_cases hlt:d<tmps.size
     ·have dC:tmps.getD d undef=tmps[d]:=(by simp [hlt]);rw [dC] at hrd;rw [Bs hlt];generalize tmps[d]=u at hrd;cases hrd;rfl
     grind
    grind
   ·cases h
theorem w6j {cx:Ctx} {t:Nat} {kd:IntKind} {n:Int} {st st':St} (ht:st.tmp t=.int kd n) (h:st.conc cx t kd n=some st'):st'.mem=st.mem∧st'.next=st.next∧(st'.ob=true→st.ob=true∧ ∀t,st'.tmp t=st.tmp t):=by
 obtain ⟨env,mem,next,orc,ob⟩:=st;cases orc with
 | nil=>
  obtain rfl:=Af h
  grind
 | cons o r=>
  unfold St.conc at h;obtain ⟨_,h⟩:=Zq h;obtain rfl:=Af h;refine ⟨rfl,rfl,fun ho=> ?_⟩;simp only [Ac,Ak] at ho;refine ⟨ho.2,fun k=> ?_⟩;show T.get .undef (T.set .undef env t _) k=T.get .undef env k;rw [T.get_set];split
  ·rename_i e;subst e;rw [←ho.1];exact ht.symm
  ·rfl
theorem w1s {o:Oper} {cx:Ctx} {st st':St} (h:v2k o cx st=some st'):st'.mem=st.mem∧st'.next=st.next∧(st'.ob=true→st.ob=true∧ ∀t,st'.tmp t=st.tmp t):=by
 grind [v2k,w6j]
theorem Vi {ops:Array Oper} {o:Oper} {cx:Ctx} {st st':St} {e:Bool} (h:Jd ops o cx st=some (e,st')): ∃st1,z6d ops o cx st=some (e,st1)∧st'.mem=st1.mem∧st'.next=st1.next∧(st'.ob=true→st1.ob=true∧ ∀t,st'.tmp t=st1.tmp t)∧(Yp o.op=.alloc ∨e=false→st'=st1):=by
 unfold Jd at h;split at h
 ·rename_i st1 h1;split at h
  ·rename_i st2 h2;simp only [Ab,Aa] at h;obtain ⟨rfl,rfl⟩:=h;obtain ⟨c1,c2,c3⟩:=w1s h2;refine ⟨st1,h1,c1,c2,c3,fun hk=> ?_⟩;rcases hk with hk | hk
   ·unfold v2k at h2;split at h2
    ·rename_i ho;rw [ho] at hk;cases hk
    ·rename_i ho;rw [ho] at hk;cases hk
    grind
   ·cases hk
  ·cases h
 grind
theorem Xx {ops:Array Oper} {o:Oper} {cx:Ctx} {st st':St} {e:Bool} (h:Jd ops o cx st=some (e,st')):st'.mem=st.mem∧st'.next=st.next∧(st'.ob=true→st.ob=true∧ ∀t,st'.tmp t=st.tmp t):=by
 grind [Vi,w1n]
theorem Wq {ops:Array Oper} {o:Oper} {cx:Ctx} {st st':St} {e:Bool} (h:Jd ops o cx st=some (e,st')) (ho:st'.ob=true) {tmps:Array Value} (hsz:tmps.size=cx.n)
  (hg: ∀d,Wc ops o=some d→Za ρ (st.tmp d) (tmps.getD d undef)):Region.wanted o (yielded ops tmps)=e:=by
 obtain ⟨st1,h1,_,_,c3,_⟩:=Vi h;exact x4y h1 (c3 ho).1 hsz hg
structure u2s (P:Program) (cx:Ctx) (o:Oper) (st st':St) (v:AVal):Prop where
 ob:st.ob=true
 does: ∀(ρ:Rho) (a:Act) (w:World) (ev:Operand→AVal),(∀x,x∈o.op.operands→ev x=st.eval x)→Vr ρ ev a.eval o.op→Rel ρ st.mem st.next w→u2y P o a w (y2l ρ cx.floor st st' v w)
 calm:(Yp o.op=.pure ∨Yp o.op=.read)→ ∀(ρ:Rho) (a:Act) (w:World) (ev:Operand→AVal) (mem:Mem) (next:Nat),(∀x,x∈o.op.operands→ev x=st.eval x)→Vr ρ ev a.eval o.op→Rel ρ mem next w→
  (∀t y b ab,o.op=.load t y→x1z o.op ev=some b→Zt st.mem b=some ab→Zt mem b=some ab)→ ∃u,(execOp a.eval o).run P w=.ok (.value u) w∧Za ρ v u
theorem w5a {op:Op} {ev:Operand→AVal} {x:AVal×Bool} (h:Uq P op ev=some x):Yp op=.pure :=by
 cases op with
 | call c=>
  obtain ⟨callee,args,argTypes⟩:=c;cases callee with
  | builtin b=>cases b <;> first | rfl | (simp [Uq,z9l] at h)
  | value f=>simp [Uq] at h
  | invoke r m=>rfl
 | _=>first | rfl | (simp [Uq] at h;done)
theorem x2p {S:Specs} {R:Runner} (hN:z2c P) (hS:Zw P S) (hRI:x7k R) (hR:ROk P R) {lift:Bool} {o:Oper} {cx:Ctx} {st st':St} (hcx:cx.floor≤st.next) (h:y0c P S R lift o cx st=some st'):
  ∃v stm,stm.put cx o.dst v=some st'∧stm.env=st.env∧Yb cx.floor st stm∧((Yp o.op=.pure ∨Yp o.op=.read)→stm.mem=st.mem∧stm.next=st.next)∧
   (lift=true→Yp o.op=.call → ∀b,b<st.next→wrC S o.op st.eval≠some b→Zt stm.mem b=Zt st.mem b)∧
   (Yp o.op=.chain → ∀b,b<st.next→y6p o.op st.eval≠some b→Zt stm.mem b=Zt st.mem b)∧
   (Yp o.op=.alloc →v=.ptr st.next 0∧ ∃t z,o.op=.alloc t∧Ut P t=some z∧stm=z3r st z t)∧
   (st'.ob=true→u2s P cx o st stm v):=by
 unfold y0c at h;split at h
 ·rename_i v b hp;have hk:=w5a hp;split at h
  ·rename_i st1 h1;obtain ⟨e1,e2,e3,e4⟩:=Ys h1;refine ⟨v,st1,h,e1,Yb.same e2 e3 fun x=>(e4 x).2,fun _=>⟨e2,e3⟩,(fun _ hc=>by grind),(fun hc=>by grind),(fun hc=>by grind),fun ho=> ?_⟩;obtain ⟨_,_,p3,_⟩:=Xa h;rw [p3] at ho;obtain ⟨rfl,ho1⟩:=e4 ho;refine ⟨ho1,fun ρ a w ev hev hr cV=> ?_,fun _ ρ a w ev mem next hev hr cV hag=> ?_⟩
   ·have hr':Vr ρ st.eval a.eval o.op:=fun x hx=>by rw [←hev x hx];exact hr x hx
    obtain ⟨u,hu,cX⟩:=y1n hp rfl hr';exact .inl ⟨ρ,u,w,cX w,hu,by grind,by rw [e2,e3];exact Ev.refl _ _ _ _ _ cV.dom⟩
   ·have hr':Vr ρ st.eval a.eval o.op:=fun x hx=>by rw [←hev x hx];exact hr x hx
    grind [y1n]
  ·cases h
 ·split at h
  ·rename_i v stm he;obtain ⟨eH,cZ⟩:=y1s hRI he;refine ⟨v,stm,h,cZ,eH,fun hk=> ?_,fun hl hk b hb hw=> ?_,fun hk b hb hn=>y9i hk hb hn he,fun hk=> ?_,fun ho=> ?_⟩
   ·obtain ⟨dst,op,type,pos,after,guard⟩:=o;simp only at hk he;cases op with
    | load t x=>
     simp only [Xc] at he;split at he
     ·rename_i hl;obtain ⟨l1,l2,l3,l4⟩:=z0h hl;simp only [Aj,Aa] at he
      grind [Ys]
     ·cases he
    | call c=>
     obtain ⟨callee,args,argTypes⟩:=c;cases callee with
     | builtin b=>cases b <;> first | (simp [Xc] at he;done) | (simp [Yp] at hk;done)
     | value f=>simp [Yp] at hk
     | invoke r m=>simp [Xc] at he
    | _=>first | (simp [Xc] at he;done) | (simp [Yp] at hk;done)
   ·obtain ⟨dst,op,type,pos,after,guard⟩:=o;simp only at hk he;cases op with
    | call c=>
     obtain ⟨callee,args,argTypes⟩:=c;cases callee with
     | builtin b=>cases b <;> first | (simp [Xc] at he;done) | (simp [Yp] at hk;done)
     | value f=>
      grind [Xc,y9k,wrC]
     | invoke r m=>simp [Xc] at he
    | _=>first | (simp [Xc] at he;done) | (simp [Yp] at hk;done)
   ·obtain ⟨dst,op,type,pos,after,guard⟩:=o;simp only at hk he;cases op with
    | alloc t=>
     simp only [Xc,Aj,Aa] at he
     grind
    | call c=>
     obtain ⟨callee,args,argTypes⟩:=c;cases callee with
     | builtin b=>cases b <;> first | (simp [Xc] at he;done) | (simp [Yp] at hk;done)
     | value f=>simp [Yp] at hk
     | invoke r m=>simp [Xc] at he
    | _=>first | (simp [Xc] at he;done) | (simp [Yp] at hk;done)
   ·obtain ⟨_,_,p3,_⟩:=Xa h;rw [p3] at ho;refine ⟨eH.ob ho,fun ρ a w ev hev hr cV=>y6h hN hS hR hcx he ho hev hr cV,fun hk ρ a w ev mem next hev hr cV hag=> ?_⟩;obtain ⟨dst,op,type,pos,after,guard⟩:=o;simp only at hk he hev hr hag;cases op with
    | load t x=>
     simp only [Xc] at he;split at he
     ·rename_i v' bb st0 hv;obtain ⟨l1,l2,l3,l4⟩:=z0h hv;simp only [Aj,Aa] at he;obtain ⟨st1,h1,rfl,rfl⟩:=he;obtain ⟨_,_,_,e4⟩:=Ys h1;obtain ⟨rfl,hob0⟩:=e4 ho;have hv:=(l4 hob0).1;have hx:x∈(Op.load t x).operands :=(by simp [Op.operands]);have hl:y1r P mem t (ev x)=some (v',true):=by
       rw [hev x hx];have hag': ∀b ab,x1z (.load t x) st.eval=some b→Zt st.mem b=some ab→Zt mem b=some ab:=fun b ab q1 q2=>hag t x b ab rfl (by grind [x1z]) q2;unfold y1r at hv ⊢;split at hv
       ·grind [x1z]
       ·rename_i y hy;unfold x5b at hv ⊢
        grind [x1z]
      obtain ⟨z,hz,cX⟩:=z7r cV hl (hr x hx);simp_all [execOp]
     ·cases he
    | call c=>
     obtain ⟨callee,args,argTypes⟩:=c;cases callee with
     | builtin b=>cases b <;> first | (simp [Xc] at he;done) | (simp [Yp] at hk;done)
     | value f=>simp [Yp] at hk
     | invoke r m=>simp [Xc] at he
    | _=>first | (simp [Xc] at he;done) | (simp [Yp] at hk;done)
  ·cases h
theorem y0a {S:Specs} {R:Runner} {ops:Array Oper} {cx:Ctx} {x:Bool×Oper} {l:List (Bool×Oper)} {st:St}:x6f P S R ops cx (x::l) st=(y4j P S R ops cx x st).bind (x6f P S R ops cx l):=by
 grind [x6f,y4j]
theorem u2y.wp2 {o:Oper} {a:Act} {w:World} {K:Rho→Value→World→Prop} {next:Act→World→Prop} {Q:Exit→Act→World→Prop} (h:u2y P o a w K)
  (hk: ∀ρ' u w',K ρ' u w'→((execOp a.eval o).run P w=.ok (.value u) w'∨ ∀u w',(execOp a.eval o).run P w≠ .ok (.value u) w')→next (a.put o.dst u) w'):o.wp P a w next Q:=by
 unfold Oper.wp;rcases h with ⟨ρ',u,w',e,k⟩ | ⟨ρ',w',e,k⟩ | ⟨f,args,e,hc⟩
 ·have:=hk _ _ _ k (.inl e);rw [e];exact this
 ·have:=hk _ _ _ k (.inr fun u w' e2=>by grind);rw [e];exact this
 ·rw [e];exact hc.mono fun e' w' ⟨ρ',u,he,k⟩=>by
   grind
theorem x7w (m:Mem) (sz:Nat) (zero:List AVal) (ut:TypeDesc) (b o n:Nat) (c:w1x):y4l m sz zero ut (.sl b o n c)=none:=by cases ut <;> rfl
theorem w6p {cx:Ctx} {st:St} {ts:List TypeId} {s:AVal} {b o n:Nat} {c:w1x} {r:List AVal}:Jj P cx st ts (s::.sl b o n c::r)=none:=by
 unfold Jj
 grind [x7w,unN]
theorem w0f {S:Specs} {R:Runner} {lift:Bool} {o:Oper} {cx:Ctx} {st st':St} (h:y0c P S R lift o cx st=some st') (hob:st'.ob=true) {b:Nat} (hk:x4w o.op st.eval st.mem=some b) {a:Act} {w:World} (hr:Vr ρ st.eval a.eval o.op) (cV:Rel ρ st.mem st.next w):
  ∃u w',(execOp a.eval o).run P w=.ok (.value u) w'∧ ∀ab l,Zt st.mem b=some ab→ρ b=some l→Xq ρ w' ab l:=by
 obtain ⟨dst,op,type,pos,after,guard⟩:=o;simp only at hk hr;unfold x4w at hk;split at hk
 ·rename_i args argTypes;have cY:Xo (Za ρ) (args.toList.map st.eval) (args.map a.eval).toList :=by rw [Bg];exact Xo.maps _ _ _ fun x hx=>hr x (by grind [Op.operands,Call.operands])
  have h:(match Kg P cx st argTypes.toList (args.toList.map st.eval) with
   | some (v,st2)=>st2.put cx dst v
   | none=>none)=some st':=h
  split at h
  ·rename_i v st2 h2;have ho2:st2.ob=true:=by
    obtain ⟨_,_,p3,_⟩:=Xa h
    grind
   unfold Kg at h2;rcases Wk h2 with ⟨_,h2⟩ | ⟨hty,h2⟩
   ·cases h2
   rw [Bool.not_eq_false'] at hty;split at hk
   ·rename_i b' sz off len z b2 o2 n2 c2 r he;obtain rfl:=Af hk;rw [he] at h2 cY;rcases Wk h2 with ⟨_,h2⟩ | ⟨_,h2⟩
    ·rw [w6p] at h2;cases h2
    ·obtain ⟨ρ',u,w',cX,_,hq⟩:=z2m (type:=type) cV h2 ho2 cY (by rw [he] at hty;exact hty);exact ⟨u,w',by simp_all [execOp,resolve,invoke,builtin],fun ab l k1 k2=>hq _ _ _ _ _ _ _ _ rfl k1 k2⟩
   ·rename_i b' off len z b2 o2 n2 c2 r he;split at hk
    ·rename_i blk hm;obtain ⟨hc,hk⟩:=Zq hk;obtain rfl:=Af hk;simp only [Ac] at hc;rw [he] at h2 cY;rcases Wk h2 with ⟨_,h2⟩ | ⟨_,h2⟩
     ·rw [w6p] at h2;cases h2
     ·obtain ⟨ρ',u,w',cX,_,_,hq⟩:=Ju (type:=type) cV cx.floor h2 cY (by rw [he] at hty;exact hty);refine ⟨u,w',by simp_all [execOp,resolve,invoke,builtin],fun ab l k1 k2=> ?_⟩;rw [hm] at k1;obtain rfl:=Af k1;exact hq.1 _ _ _ _ _ _ _ _ _ _ _ rfl (Ai hc.2) hm (Ah hc.1) k2
    ·cases hk
   ·cases hk
  ·cases h
 ·cases hk
structure u2u (S:Specs) (P:Program) (ops:Array Oper) (cx:Ctx) (x:Bool×Oper) (st st':St):Prop where
 inv:Yb cx.floor st st'
 stay:(Yp x.2.op=.pure ∨Yp x.2.op=.read)→st'.mem=st.mem∧st'.next=st.next
 lift:st'.ob=true→x.1=true→Yp x.2.op=.call → ∀b,b<st.next→wrC S x.2.op st.eval≠some b→Zt st'.mem b=Zt st.mem b
 foot:st'.ob=true→Yp x.2.op=.chain → ∀b,b<st.next→y6p x.2.op st.eval≠some b→Zt st'.mem b=Zt st.mem b
 alloc:Yp x.2.op=.alloc →x.2.guard=none→ ∃t z,x.2.op=.alloc t∧Ut P t=some z∧st'.mem=(z3r st z t).mem ∧st'.next=(z3r st z t).next ∧ ∀d,x.2.dst=some d→st'.tmp d=.ptr st.next 0
 slot: ∀d,x.2.dst=some d→d<cx.n
 other:st'.ob=true→ ∀t,x.2.dst≠some t→st'.tmp t=st.tmp t
 does:st'.ob=true→ ∀(ρ:Rho) (a:Act) (w:World) (ev:Operand→AVal),a.tmps.size=cx.n→(∀y,y∈x.2.op.operands→ev y=st.eval y)→(∀d,Wc ops x.2=some d→Za ρ (st.tmp d) (a.tmps.getD d undef))→Vr ρ ev a.eval x.2.op→Rel ρ st.mem st.next w→
  ∀(K:Act→World→Prop) (Q:Exit→Act→World→Prop),(∀ρ' u w',(∀d,x.2.dst=some d→Za ρ' (st'.tmp d) u)→Rel ρ' st'.mem st'.next w'→Ev ρ ρ' cx.floor st.mem st.next st'.mem st'.next w w'→(∀b ab l,x4w x.2.op st.eval st.mem=some b→Zt st.mem b=some ab→ρ b=some l→Xq ρ w' ab l)→K (a.put x.2.dst u) w')→
   if Region.wanted x.2 (yielded ops a.tmps) then x.2.wp P a w K Q else K (a.put x.2.dst undef) w
 calm:st'.ob=true→(Yp x.2.op=.pure ∨Yp x.2.op=.read)→ ∀(ρ:Rho) (a:Act) (w:World) (ev:Operand→AVal) (mem:Mem) (next:Nat),a.tmps.size=cx.n→(∀y,y∈x.2.op.operands→ev y=st.eval y)→(∀d,Wc ops x.2=some d→Za ρ (st.tmp d) (a.tmps.getD d undef))→Vr ρ ev a.eval x.2.op→Rel ρ mem next w→
  (∀t y b ab,x.2.op=.load t y→x1z x.2.op ev=some b→Zt st.mem b=some ab→Zt mem b=some ab)→ ∀(K:Act→World→Prop) (Q:Exit→Act→World→Prop),(∀u,(∀d,x.2.dst=some d→Za ρ (st'.tmp d) u)→K (a.put x.2.dst u) w)→
   if Region.wanted x.2 (yielded ops a.tmps) then x.2.wp P a w K Q else K (a.put x.2.dst undef) w
theorem y2x {S:Specs} {R:Runner} (hN:z2c P) (hS:Zw P S) (hRI:x7k R) (hR:ROk P R) {ops:Array Oper} {x:Bool×Oper} {cx:Ctx} {st st':St} (hcx:cx.floor≤st.next) (h:y4j P S R ops cx x st=some st'):
  u2u S P ops cx x st st':=by
 unfold y4j at h;split at h
 ·cases h
 ·rename_i st1 hw;obtain ⟨w1,w2,w3⟩:=Xx hw;obtain ⟨v,stm,hp,cZ,eH,hstay,hlift,hfoot,halloc,hdo⟩:=x2p hN hS hRI hR (by grind) h;obtain ⟨p1,p2,p3,p4⟩:=Xa hp;have eI: ∀d,x.2.dst=some d→st'.tmp d=v:=fun d hd=>by
   rcases p4 with ⟨e,_⟩ | ⟨d',e,_,he⟩
   ·grind
   ·rw [hd] at e;obtain rfl:=Af e;show T.get .undef st'.env d=v;rw [he,T.get_set,AD rfl]
  have hi1:Yb cx.floor st st1:=Yb.same w1 w2 fun ho=>(w3 ho).1;have hi2:Yb cx.floor stm st':=Yb.same p1 p2 fun ho=>by grind
  refine ⟨(hi1.trans eH).trans hi2,fun hk=> ?_,fun ho hl hk b hb hn=> ?_,fun ho hk b hb hn=> ?_,fun hk hg=> ?_,fun d hd=> ?_,fun ho t ht=> ?_,fun ho ρ a w ev hsz hev hgr hr cV K Q hK=> ?_,fun ho hk ρ a w ev mem next hsz hev hgr hr cV hag K Q hK=> ?_⟩
  ·grind
  ·have ho1:st1.ob=true:=eH.ob (by grind);have dG:st1.eval=st.eval:=by
    funext y
    cases y with
    | tmp t=>exact (w3 ho1).2 t
    | _=>rfl
   grind
  ·have ho1:st1.ob=true:=eH.ob (by grind);have dG:st1.eval=st.eval:=by
    funext y
    cases y with
    | tmp t=>exact (w3 ho1).2 t
    | _=>rfl
   grind
  ·grind [Vi,z6d]
  ·grind
  ·have ho1:st1.ob=true:=eH.ob (by grind);rw [←(w3 ho1).2 t];show T.get .undef st'.env t=T.get .undef st1.env t
   grind [T.get_set]
  ·have ho1:st1.ob=true:=eH.ob (by grind);have dG:=(w3 ho1).2;have eD: ∀y,st1.eval y=st.eval y:=fun y=>by cases y <;> first | rfl | exact dG _
   rw [Wq hw ho1 hsz hgr,AD rfl];refine ((hdo ho).does ρ a w ev (fun y hy=>by grind) hr (by grind)).wp2 fun ρ' u w' hpost cX=> ?_;have he:=hpost.ev;rw [w1,w2] at he;refine hK ρ' u w' (fun d hd=>by rw [eI d hd];exact hpost.val) (by rw [p1,p2];exact hpost.rel) (by grind) fun b ab l k1 k2 k3=> ?_;have hr':Vr ρ st1.eval a.eval x.2.op:=fun y hy=>by rw [eD y,←hev y hy];exact hr y hy
   have e1:st1.eval=st.eval:=funext eD
   grind [w0f]
  ·have ho1:st1.ob=true:=eH.ob (by grind);have dG:=(w3 ho1).2;have eD: ∀y,st1.eval y=st.eval y:=fun y=>by cases y <;> first | rfl | exact dG _
   rw [Wq hw ho1 hsz hgr,AD rfl];obtain ⟨u,cX,hu⟩:=(hdo ho).calm hk ρ a w ev mem next (fun y hy=>by grind) hr cV (fun t y b ab q1 q2 q3=>hag t y b ab q1 q2 (by grind))
   unfold Oper.wp;rw [cX];exact hK u fun d hd=>by grind
 ·rename_i st1 hw;obtain ⟨w1,w2,w3⟩:=Xx hw;obtain ⟨p1,p2,p3,p4⟩:=Xa h;have eI: ∀d,x.2.dst=some d→st'.tmp d=.tup []:=fun d hd=>by
   rcases p4 with ⟨e,_⟩ | ⟨d',e,_,he⟩
   ·grind
   ·rw [hd] at e;obtain rfl:=Af e;show T.get .undef st'.env d=.tup [];rw [he,T.get_set,AD rfl]
  refine ⟨Yb.same (p1.trans w1) (p2.trans w2) fun ho=>(w3 (by grind)).1,fun _=>⟨p1.trans w1,p2.trans w2⟩,fun _ _ _ b _ _=>by rw [p1,w1],fun _ _ b _ _=>by rw [p1,w1],fun hk hg=> ?_,fun d hd=> ?_,fun ho t ht=> ?_,fun ho ρ a w ev hsz hev hgr hr cV K Q hK=> ?_,fun ho hk ρ a w ev mem next hsz hev hgr hr cV hag K Q hK=> ?_⟩
  ·grind [Vi,z6d]
  ·grind
  ·rw [←(w3 (by grind)).2 t];show T.get .undef st'.env t=T.get .undef st1.env t
   grind [T.get_set]
  ·have ho1:st1.ob=true:=by grind
   rw [Wq hw ho1 hsz hgr,Ax (by simp)];refine hK ρ undef w (fun d hd=>by rw [eI d hd];exact .tup [] #[] rfl fun i h1 _=>by simp at h1) ?_ ?_ fun b ab l _ k2 k3=>cV.blk b l ab k3 k2
   ·grind
   ·rw [p1,p2,w1,w2];exact Ev.refl _ _ _ _ _ cV.dom
  ·have ho1:st1.ob=true:=by grind
   rw [Wq hw ho1 hsz hgr,Ax (by simp)];exact hK undef fun d hd=>by rw [eI d hd];exact .tup [] #[] rfl fun i h1 _=>by simp at h1
def Fin (D:List Deferred) (ρ:Rho) (cx:Ctx) (st st':St) (w:World):Exit→Act→World→Prop:=fun e a' w'=>
 e=.normal ∧a'.defers=D∧ ∃ρ',Xb ρ' st'.env cx.n a'.tmps∧Rel ρ' st'.mem st'.next w'∧Ev ρ ρ' cx.floor st.mem st.next st'.mem st'.next w w'
def w8u (ρ:Rho) (k:Nat) (o:Obj):Rho:=⟨ρ.f,fun j=>if j=k then some o else ρ.fz j,ρ.lp⟩
theorem y5a {k:Nat} {o:Obj} (h:ρ.fz k=none):ρ.le (w8u ρ k o):=
 ⟨fun _ _ e=>e,fun j o' e=>by
  show (if j=k then some o else ρ.fz j)=some o'
  grind,fun _ _ e=>e⟩
theorem Rel.froze {mem:Mem} {next:Nat} {w:World} (h:Rel ρ mem next w) (vs:Array Value) (el:TypeId):
  Rel (w8u ρ w.heap.size (.cells vs el)) mem next {w with heap:=w.heap.push (.cells vs el)}:=by
 have hle:=y5a (o:=.cells vs el) (h.hold w.heap.size (Ao _));have push: ∀k,k<w.heap.size→(w.heap.push (.cells vs el))[k]? =w.heap[k]? :=fun k hk=>by
  grind
 refine ⟨h.dom,h.inj,fun b l ab e hm=> ?_,fun k o e=> ?_,fun b l e hs=> ?_,fun b l e=> ?_,h.bd,h.ldom.1,h.ldom.2.mono hle.2.1⟩
 ·exact (h.blk b l ab e hm).world hle (push _ (h.real b l e))
 ·have e:(if k=w.heap.size then some (.cells vs el) else ρ.fz k)=some o:=e;show (w.heap.push (.cells vs el))[k]? =some o;by_cases hk:k=w.heap.size
  ·grind
  ·rw [Ax hk] at e;have:=h.old k o e
   grind
 ·have:=h.real b l e;show (if l.blk=w.heap.size then _ else ρ.fz l.blk)=none;rw [Ax (by omega)];exact h.sep b l e hs
 ·have:=h.real b l e
  grind
theorem Ev.froze {mem:Mem} {next:Nat} {w:World} (h:Rel ρ mem next w) (floor:Nat) (m:Mem) (vs:Array Value) (el:TypeId):
  Ev ρ (w8u ρ w.heap.size (.cells vs el)) floor m next m next w {w with heap:=w.heap.push (.cells vs el)}:=by
 have hle:=y5a (o:=.cells vs el) (h.hold w.heap.size (Ao _));refine ⟨hle,fun _ _=>rfl,Ao _,fun _ _ _ _ _ q=>q,fun k o q _=> ?_,fun b l hb hl=> ?_,?_,rfl,rfl,rfl,fun k hk=> ?_⟩
 ·grind
 ·have:=h.dom b l hl;omega
 ·grind
 ·show (if k=w.heap.size then _ else ρ.fz k)=ρ.fz k
  grind
theorem x5c {w:World} {t:TypeId} {len:Nat} {ps:List (Nat×AVal)} {qs:List (Nat×Value)} {v:AVal} (hb:u2p P t len ps=some v) (hp:Ka ρ ps qs) (hf:ρ.fz w.heap.size=none):
  ∃u vs el,(Instr.buildSlice t len qs.toArray).run P w=.ok u {w with heap:=w.heap.push (.cells vs el)}∧Za (w8u ρ w.heap.size (.cells vs el)) v u:=by
 unfold u2p at hb;split at hb
 ·rename_i e hu;split at hb
  ·rename_i i zero hi hz;obtain ⟨hc,hb⟩:=Zq hb;simp only [Ac] at hc;obtain ⟨⟨hl1,hs1⟩,hle,hzl⟩:=hc;have hl1:=Ai hl1;have hs1:=Ai hs1;have hle:=Ai hle;have hzl:=Ah hzl;split at hb
   ·rename_i cells dA;obtain ⟨hc,hb⟩:=Zq hb;simp only [Ac] at hc;obtain ⟨hn,hpf⟩:=hc;have hn:=Ah hn;obtain rfl:=Af hb;obtain ⟨_,z,_,_,hzr,hzv⟩:=Xv (ρ:=ρ) hz;have dZ:=z6k hzr len (len*i.size) (by rw [hzl]);obtain ⟨arr,h1,h2⟩:=Up dA dZ hp;have hsz:arr.size=len*i.size:=(by rw [←h2.1,hn]);have hgt': ¬2 ^ 24<len*i.size:=(by omega);have eV:0<len*i.size:=Nat.mul_pos (by omega) (by omega);have h0: ¬len*i.size=0:=(by omega);refine ⟨.slice (some ⟨w.heap.size,0,none⟩) len len,arr,e,?_,?_⟩
    ·have hsz0: ¬i.size=0:=(by omega);simp [Instr.buildSlice,run_underlying hu,Zg hi,h0,hsz0,hzv,h1,newRow,hgt']
    ·have hin: ∀a b,a<len→b<i.size→a*i.size+b<cells.length:=fun a b ha hb=>by
      have:(a+1)*i.size≤len*i.size:=Az _ ha
      grind
     have dC: ∀a,a<len→((cells.drop (a*i.size)).take i.size).length =i.size:=fun a ha=>by
      have:(a+1)*i.size≤len*i.size:=Az _ ha
      grind
     refine .dat len _ w.heap.size 0 i.size len (fun a b=>arr.getD (a*i.size+b) undef) (Ao _) (fun a ha=>dC a ha) (fun a b ha hb=> ?_) (fun a b ha hb=> ?_)
     ·have hb':b<i.size:=(by grind);have h3:=hin a b ha hb';have e1:((cells.drop (a*i.size)).take i.size)[b]=cells[a*i.size+b]:=by
       grind
      rw [e1];have h4:a*i.size+b<arr.size:=(by grind);have e2:arr.getD (a*i.size+b) undef=arr[a*i.size+b]:=(by simp [h4]);rw [e2];have h5:=Vu 6 _ _ (Aw.1 hpf _ (AU h3)) (h2.2 _ h3 h4);exact h5.mono (y5a (o:=.cells arr e) hf).bare
     ·have h3:=hin a b ha hb;have h4:a*i.size+b<arr.size:=(by grind);refine ⟨arr,e,(0,0),?_,?_⟩
      ·show (if w.heap.size=w.heap.size then some (Obj.cells arr e) else _)=_
       grind
      ·simp [h4]
   ·cases hb
  ·cases hb
 ·cases hb
structure v2l (S:Specs) (z:Nat) (P:Program) (ops:Array Oper) (cx:Ctx) (x:Bool×Oper) (st st':St):Prop where
 inv:Yb cx.floor st st'
 stay:(Yc z x.2.op=.pure ∨Yc z x.2.op=.read ∨Yc z x.2.op=.lit)→st'.mem=st.mem∧st'.next=st.next
 lift:st'.ob=true→x.1=true→Yc z x.2.op=.call → ∀b,b<st.next→wrC S x.2.op st.eval≠some b→Zt st'.mem b=Zt st.mem b
 foot:st'.ob=true→Yc z x.2.op=.chain → ∀b,b<st.next→y6p x.2.op st.eval≠some b→Zt st'.mem b=Zt st.mem b
 fresh:st'.ob=true→(Yc z x.2.op=.alloc ∨Yc z x.2.op=.birth)→x.2.guard=none→ ∃cells ty,st'.mem=Yr st.mem st.next (some ⟨cells,ty,none⟩)∧st'.next=st.next+1∧
  ∀(ρ:Rho) (a:Act) (w:World) (ev:Operand→AVal),(∀y,y∈x.2.op.operands→ev y=st.eval y)→Vr ρ ev a.eval x.2.op→
   ∃u vs el,el=ty∧Wx ρ cells vs∧(execOp a.eval x.2).run P w=.ok (.value u) {w with heap:=w.heap.push (.cells vs el)}∧ ∀ρ':Rho,ρ' st.next=some ⟨w.heap.size,0,cells.length,vs.size⟩→ ∀d,x.2.dst=some d→Za ρ' (st'.tmp d) u
 slot: ∀d,x.2.dst=some d→d<cx.n
 other:st'.ob=true→ ∀t,x.2.dst≠some t→st'.tmp t=st.tmp t
 does:st'.ob=true→(Yc z x.2.op=.chain ∨Yc z x.2.op=.call)→ ∀(ρ:Rho) (a:Act) (w:World) (ev:Operand→AVal),a.tmps.size=cx.n→(∀y,y∈x.2.op.operands→ev y=st.eval y)→(∀d,Wc ops x.2=some d→Za ρ (st.tmp d) (a.tmps.getD d undef))→Vr ρ ev a.eval x.2.op→Rel ρ st.mem st.next w→
  ∀(K:Act→World→Prop) (Q:Exit→Act→World→Prop),(∀ρ' u w',(∀d,x.2.dst=some d→Za ρ' (st'.tmp d) u)→Rel ρ' st'.mem st'.next w'→Ev ρ ρ' cx.floor st.mem st.next st'.mem st'.next w w'→(∀b ab l,x4w x.2.op st.eval st.mem=some b→Zt st.mem b=some ab→ρ b=some l→Xq ρ w' ab l)→K (a.put x.2.dst u) w')→
   if Region.wanted x.2 (yielded ops a.tmps) then x.2.wp P a w K Q else K (a.put x.2.dst undef) w
 calm:st'.ob=true→(Yc z x.2.op=.pure ∨Yc z x.2.op=.read)→ ∀(ρ:Rho) (a:Act) (w:World) (ev:Operand→AVal) (mem:Mem) (next:Nat),a.tmps.size=cx.n→(∀y,y∈x.2.op.operands→ev y=st.eval y)→(∀d,Wc ops x.2=some d→Za ρ (st.tmp d) (a.tmps.getD d undef))→Vr ρ ev a.eval x.2.op→Rel ρ mem next w→
  (∀t y b ab,x.2.op=.load t y→x1z x.2.op ev=some b→Zt st.mem b=some ab→Zt mem b=some ab)→ ∀(K:Act→World→Prop) (Q:Exit→Act→World→Prop),(∀u,(∀d,x.2.dst=some d→Za ρ (st'.tmp d) u)→K (a.put x.2.dst u) w)→
   if Region.wanted x.2 (yielded ops a.tmps) then x.2.wp P a w K Q else K (a.put x.2.dst undef) w
 lit:st'.ob=true→Yc z x.2.op=.lit → ∀(ρ:Rho) (a:Act) (w:World) (ev:Operand→AVal) (mem:Mem) (next:Nat),a.tmps.size=cx.n→(∀y,y∈x.2.op.operands→ev y=st.eval y)→(∀d,Wc ops x.2=some d→Za ρ (st.tmp d) (a.tmps.getD d undef))→Vr ρ ev a.eval x.2.op→Rel ρ mem next w→
  ∀(K:Act→World→Prop) (Q:Exit→Act→World→Prop),(∀ρ' u w',(∀d,x.2.dst=some d→Za ρ' (st'.tmp d) u)→Rel ρ' mem next w'→(∀b,ρ' b=ρ b)→(∀floor m,Ev ρ ρ' floor m next m next w w')→K (a.put x.2.dst u) w')→
   if Region.wanted x.2 (yielded ops a.tmps) then x.2.wp P a w K Q else K (a.put x.2.dst undef) w
theorem w5b {z:Nat} {op:Op} (h:x3m z op=false) (h2:isBirth z op=false):Yc z op=Yp op:=by unfold Yc;grind
theorem w6q {o:Oper} {t:TypeId} {z:List AVal} (ho:o.op=.alloc t) (hz:Ut P t=some z) (a:Act) (w:World):
  ∃vs:Array Value,Wx ρ z vs∧(execOp a.eval o).run P w=.ok (.value (.pointer (some ⟨w.heap.size,0,none⟩))) {w with heap:=w.heap.push (.cells vs t)}:=by
 obtain ⟨dst,op,type,pos,after,guard⟩:=o;simp only at ho;subst ho;obtain ⟨_,zv,_,_,hzr,hzv⟩:=Xv (ρ:=ρ) hz;exact ⟨zv.cells,hzr,by simp_all [execOp,Instr.alloc,newVar,newRow]⟩
theorem y6i {w:World} {t:TypeId} {len:Nat} {ps:List (Nat×AVal)} {qs:List (Nat×Value)} {cells:List AVal} {e:TypeId} {sz:Nat} (hb:x5i P t len ps=some (cells,e,sz)) (hp:Ka ρ ps qs):
  ∃vs el,el=e∧Wx ρ cells vs∧(Instr.buildSlice t len qs.toArray).run P w=.ok (.slice (some ⟨w.heap.size,0,none⟩) len len) {w with heap:=w.heap.push (.cells vs el)}∧cells.length=len*sz∧vs.size=len*sz:=by
 unfold x5i at hb;split at hb
 ·rename_i e hu;split at hb
  ·rename_i i zero hi hz;obtain ⟨hc,hb⟩:=Zq hb;simp only [Ac] at hc;obtain ⟨⟨hl1,hs1⟩,hle,hzl⟩:=hc;have hl1:=Ai hl1;have hs1:=Ai hs1;have hle:=Ai hle;have hzl:=Ah hzl;split at hb
   ·rename_i cells dA;obtain ⟨hn,hb⟩:=Zq hb;have hn:=Ah hn;simp only [Ab,Aa] at hb;obtain ⟨rfl,rfl,rfl⟩:=hb;obtain ⟨_,z,_,_,hzr,hzv⟩:=Xv (ρ:=ρ) hz;have dZ:=z6k hzr len (len*i.size) (by rw [hzl]);obtain ⟨arr,h1,h2⟩:=Up dA dZ hp;have hsz:arr.size=len*i.size:=(by rw [←h2.1,hn]);have hgt': ¬2 ^ 24<len*i.size:=(by omega);have eV:0<len*i.size:=Nat.mul_pos (by omega) (by omega);have h0: ¬len*i.size=0:=(by omega);have hsz0: ¬i.size=0:=(by omega);exact ⟨arr,e,rfl,h2,by simp [Instr.buildSlice,run_underlying hu,Zg hi,h0,hsz0,hzv,h1,newRow,hgt'],hn,hsz⟩
   ·cases hb
  ·cases hb
 ·cases hb
theorem y3k (op:Op):Yp op≠ .lit :=by
 cases op with
 | call c=>
  obtain ⟨callee,args,argTypes⟩:=c;cases callee with
  | builtin b=>cases b <;> exact fun h=>by cases h
  | value f=>exact fun h=>by cases h
  | invoke r m=>exact fun h=>by cases h
 | _=>exact fun h=>by cases h
theorem z7o (op:Op):Yp op≠ .birth :=by
 cases op with
 | call c=>
  obtain ⟨callee,args,argTypes⟩:=c;cases callee with
  | builtin b=>cases b <;> exact fun h=>by cases h
  | value f=>exact fun h=>by cases h
  | invoke r m=>exact fun h=>by cases h
 | _=>exact fun h=>by cases h
theorem x7t {S:Specs} {R:Runner} (hN:z2c P) (hS:Zw P S) (hRI:x7k R) (hR:ROk P R) {z:Nat} {ops:Array Oper} {x:Bool×Oper} {cx:Ctx} {st st':St} (hcx:cx.floor≤st.next) (h:x0e z P S R ops cx x st=some st'):
  v2l S z P ops cx x st st':=by
 unfold x0e at h;cases hz:x3m z x.2.op with
 | false=>
  rw [hz,Ad] at h;cases hz2:isBirth z x.2.op with
  | false=>
   rw [hz2,Ad] at h;have s:=y2x hN hS hRI hR hcx h;have hk:=w5b hz hz2;refine ⟨s.inv,fun k=> ?_,?_,?_,?_,s.slot,s.other,fun ho _=>s.does ho,fun ho k=>s.calm ho (by grind),fun _ k=> ?_⟩
   ·rw [hk] at k;rcases k with k | k | k
    ·exact s.stay (.inl k)
    ·exact s.stay (.inr k)
    ·exact absurd k (y3k _)
   ·rw [hk];exact s.lift
   ·rw [hk];exact s.foot
   ·intro _ k hg;have k:Yp x.2.op=.alloc :=by
     grind [z7o]
    obtain ⟨t,z0,e1,e2,e3,e4,e5⟩:=s.alloc k hg;refine ⟨z0,t,e3,e4,fun ρ a w ev _ _=> ?_⟩;obtain ⟨vs,hvs,cX⟩:=w6q (P:=P) (ρ:=ρ) e1 e2 a w;exact ⟨_,vs,t,rfl,hvs,cX,fun ρ' hρ d hd=>by rw [e5 d hd];exact .ptr _ 0 _ hρ⟩
   grind [y3k]
  | true=>
   rw [hz2,Ag] at h;have hk:Yc z x.2.op=.birth :=by unfold Yc;grind
   obtain ⟨lf,o⟩:=x;obtain ⟨dst,op,type,pos,after,guard⟩:=o;simp only at h hz hz2 hk ⊢;cases op with
   | buildSlice t len parts=>
    split at h
    ·cases h
    ·rename_i st1 hw;obtain ⟨w1,w2,w3⟩:=Xx hw;unfold y1j at h;simp only at h;split at h
     ·rename_i cells e sz hv;obtain ⟨p1,p2,p3,p4⟩:=Xa h;have eI: ∀d,dst=some d→st'.tmp d=.sl st1.next 0 len (bif cx.sym then .un sz else .ex len):=fun d hd=>by
       rcases p4 with ⟨e,_⟩ | ⟨d',e,_,he⟩
       ·grind
       ·rw [hd] at e;obtain rfl:=Af e;show T.get .undef st'.env d=_;rw [he,T.get_set,AD rfl]
      have hi1:Yb cx.floor st st1:=Yb.same w1 w2 fun ho=>(w3 ho).1;have hi2:Yb cx.floor (z3r st1 cells e) st':=Yb.same p1 p2 fun ho=>by grind
      obtain ⟨env1,mem1,next1,orc1,ob1⟩:=st1;simp only [z3r] at p1 p2 p3 p4;simp only at w1 w2 eI;refine ⟨(hi1.trans (Yb.new _ _ _)).trans hi2,(fun k=>by grind),(fun _ _ k=>by grind),(fun _ k=>by grind),fun ho _ _=> ?_,fun d hd=> ?_,fun ho t ht=> ?_,(fun _ k=>by grind),(fun _ k=>by grind),(fun _ k=>by grind)⟩
      ·have ho1:ob1=true:=(by grind);have dG:=(w3 ho1).2;refine ⟨cells,e,by grind,by rw [p2,w2],fun ρ a w ev hev hr=> ?_⟩;have eD: ∀y,St.eval ⟨env1,mem1,next1,orc1,ob1⟩ y=st.eval y:=fun y=>by cases y <;> first | rfl | exact dG _
       have hpr:Ka ρ (parts.toList.map fun p=>(p.1,St.eval ⟨env1,mem1,next1,orc1,ob1⟩ p.2)) (parts.toList.map fun p=>(p.1,a.eval p.2)):=Qn parts.toList fun p hp=>by have hm:p.2∈(Op.buildSlice t len parts).operands :=(by grind [Op.operands]);rw [eD p.2,←hev p.2 hm];exact hr p.2 hm
       obtain ⟨vs,el,hel,hvs,cX,hn1,hn2⟩:=y6i (w:=w) hv hpr;have hpa:(parts.map fun (i,x)=>(i,a.eval x))=(parts.toList.map fun p=>(p.1,a.eval p.2)).toArray :=by
        grind
       refine ⟨.slice (some ⟨w.heap.size,0,none⟩) len len,vs,el,hel,hvs,by simp [execOp,hpa,cX],fun ρ' hρ d hd=> ?_⟩;rw [eI d hd,w2];refine .sl _ 0 len _ ⟨w.heap.size,0,cells.length,vs.size⟩ len hρ ?_ (Ao _);cases cx.sym with
       | true=>exact ⟨by grind,by grind⟩
       | false=>exact rfl
      ·grind
      ·have ho1:ob1=true:=(by grind);rw [←(w3 ho1).2 t];show T.get .undef st'.env t=T.get .undef env1 t
       grind [T.get_set]
     ·cases h
    ·rename_i st1 hw;obtain ⟨w1,w2,w3⟩:=Xx hw;obtain ⟨p1,p2,p3,p4⟩:=Xa h;have hi1:Yb cx.floor st st1:=Yb.same w1 w2 fun ho=>(w3 ho).1;have hi2:Yb cx.floor st1 st':=Yb.same p1 p2 fun ho=>by grind
     refine ⟨hi1.trans hi2,(fun k=>by grind),(fun _ _ k=>by grind),(fun _ k=>by grind),fun _ _ hg=> ?_,fun d hd=> ?_,fun ho t ht=> ?_,(fun _ k=>by grind),(fun _ k=>by grind),(fun _ k=>by grind)⟩
     ·grind [Vi,z6d]
     ·grind
     ·have ho1:st1.ob=true:=(by grind);rw [←(w3 ho1).2 t];show T.get .undef st'.env t=T.get .undef st1.env t
      grind [T.get_set]
   | _=>cases hz2
 | true=>
  rw [hz,Ag] at h;have hk:Yc z x.2.op=.lit :=by unfold Yc;rw [hz];rfl
  obtain ⟨lf,o⟩:=x;obtain ⟨dst,op,type,pos,after,guard⟩:=o;simp only at h hz hk ⊢;cases op with
  | buildSlice t len parts=>
   split at h
   ·cases h
   ·rename_i st1 hw;obtain ⟨w1,w2,w3⟩:=Xx hw;unfold x2x at h;simp only at h;split at h
    ·rename_i v hv;obtain ⟨p1,p2,p3,p4⟩:=Xa h;have eI: ∀d,dst=some d→st'.tmp d=v:=fun d hd=>by
      rcases p4 with ⟨e,_⟩ | ⟨d',e,_,he⟩
      ·grind
      ·rw [hd] at e;obtain rfl:=Af e;show T.get .undef st'.env d=v;rw [he,T.get_set,AD rfl]
     have hi1:Yb cx.floor st st1:=Yb.same w1 w2 fun ho=>(w3 ho).1;have hi2:Yb cx.floor st1 st':=Yb.same p1 p2 fun ho=>by grind
     refine ⟨hi1.trans hi2,fun _=>⟨p1.trans w1,p2.trans w2⟩,(fun _ _ k=>by grind),(fun _ k=>by grind),(fun _ k=>by grind),fun d hd=> ?_,fun ho t ht=> ?_,(fun _ k=>by grind),(fun _ k=>by grind),fun ho _ ρ a w ev mem next hsz hev hgr hr cV K Q hK=> ?_⟩
     ·grind
     ·have ho1:st1.ob=true:=(by grind);rw [←(w3 ho1).2 t];show T.get .undef st'.env t=T.get .undef st1.env t
      grind [T.get_set]
     ·have ho1:st1.ob=true:=(by grind);have dG:=(w3 ho1).2;have eD: ∀y,st1.eval y=st.eval y:=fun y=>by cases y <;> first | rfl | exact dG _
      rw [Wq hw ho1 hsz hgr,AD rfl];have hpr:Ka ρ (parts.toList.map fun p=>(p.1,st1.eval p.2)) (parts.toList.map fun p=>(p.1,a.eval p.2)):=Qn parts.toList fun p hp=>by have hm:p.2∈(Op.buildSlice t len parts).operands :=(by grind [Op.operands]);rw [eD p.2,←hev p.2 hm];exact hr p.2 hm
      obtain ⟨u,vs,el,cX,hu⟩:=x5c hv hpr (cV.hold w.heap.size (Ao _));have:(parts.map fun (i,x)=>(i,a.eval x))=(parts.toList.map fun p=>(p.1,a.eval p.2)).toArray :=by
       grind
      unfold Oper.wp;have hrun':(execOp a.eval ⟨dst,.buildSlice t len parts,type,pos,after,guard⟩).run P w=.ok (.value u) {w with heap:=w.heap.push (.cells vs el)}:=by simp [execOp,this,cX]
      rw [hrun'];exact hK _ u _ (fun d hd=>by grind) (cV.froze vs el) (fun _=>rfl) fun floor m=>Ev.froze cV floor m vs el
    ·cases h
   ·rename_i st1 hw;obtain ⟨w1,w2,w3⟩:=Xx hw;obtain ⟨p1,p2,p3,p4⟩:=Xa h;have eI: ∀d,dst=some d→st'.tmp d=.tup []:=fun d hd=>by
     rcases p4 with ⟨e,_⟩ | ⟨d',e,_,he⟩
     ·grind
     ·rw [hd] at e;obtain rfl:=Af e;show T.get .undef st'.env d=_;rw [he,T.get_set,AD rfl]
    have hi1:Yb cx.floor st st1:=Yb.same w1 w2 fun ho=>(w3 ho).1;have hi2:Yb cx.floor st1 st':=Yb.same p1 p2 fun ho=>by grind
    refine ⟨hi1.trans hi2,fun _=>⟨p1.trans w1,p2.trans w2⟩,(fun _ _ k=>by grind),(fun _ k=>by grind),(fun _ k=>by grind),fun d hd=> ?_,fun ho t ht=> ?_,(fun _ k=>by grind),(fun _ k=>by grind),fun ho _ ρ a w ev mem next hsz hev hgr hr cV K Q hK=> ?_⟩
    ·grind
    ·have ho1:st1.ob=true:=(by grind);rw [←(w3 ho1).2 t];show T.get .undef st'.env t=T.get .undef st1.env t
     grind [T.get_set]
    ·have ho1:st1.ob=true:=(by grind);rw [Wq hw ho1 hsz hgr,Ax Bool.false_ne_true];exact hK ρ undef w (fun d hd=>by rw [eI d hd];exact .tup [] #[] rfl fun i h1 _=>by simp at h1) cV (fun _=>rfl) fun floor m=>Ev.refl _ _ _ _ _ cV.dom
  | _=>cases hz
end
section
variable {ops:Array Oper}
def z6g (ops:Array Oper) (S:Nat→Bool):Prop:= ∀j o,ops[j]? =some o→S j=true→ ∀e∈o.after.toList,Region.binds .any e=true→S e.on=true
def y6n (S:Nat→Bool) (o:Oper):Prop:= ∀e∈o.after.toList,Region.binds .any e=true→S e.on=true
def z7v (ops:Array Oper) (i:Nat) (o:Oper):Prop:= ∀S,z6g ops S→y6n S o→S i=true
theorem y8w (acc:List Nat) (i:Nat): ∀(es:List Edge) (s:Nat),(es.foldl (fun s e=>bif Region.binds .any e then s||| (2 ^ e.on)||| acc.getD e.on 0 else s) s).testBit i=true→
  s.testBit i=true∨ ∃e∈es,Region.binds .any e=true∧(e.on=i∨(acc.getD e.on 0).testBit i=true)
 | [],s,h=>.inl h
 | e::es,s,h=>by
  simp only [List.foldl_cons] at h;rcases y8w acc i es _ h with h | ⟨e',he',h1,h2⟩;all_goals grind
theorem y9c (eJ: ∀(j:Nat) o,ops[j]? =some o→ ∀e∈o.after.toList,Region.binds .any e=true→e.on<j): ∀(l:List Oper) (acc:List Nat),acc.length+l.length=ops.size→(∀k,l[k]? =ops[acc.length+k]?)→
  (∀k o,k<acc.length→ops[k]? =some o→ ∀i,(acc.getD k 0).testBit i=true→i<k∧z7v ops i o)→
  ∀k o,ops[k]? =some o→ ∀i,((w1l l acc).getD k 0).testBit i=true→i<k∧z7v ops i o
 | [],acc,cW,_,hacc,k,o,ho,i,h=>by have hk:k<ops.size:=(AC.1 ho).1;simp at cW;exact hacc k o (by omega) ho i h
 | x::l,acc,cW,hl,hacc,k,o,ho,i,h=>by
  unfold w1l at h;refine y9c eJ l (acc++[x.after.toList.foldl (fun s e=>bif Region.binds .any e then s||| (2 ^ e.on)||| acc.getD e.on 0 else s) 0]) (by grind) (fun k=>by
   have:=hl (k+1)
   simpa [AH,Nat.add_comm 1 k] using this) (fun k' o' hk' ho' i' hi'=> ?_) k o ho i h
  by_cases hlt:k'<acc.length
  ·refine hacc k' o' hlt ho' i' ?_
   grind
  ·have hk2:k'=acc.length:=by grind
   subst hk2;have hx:ops[acc.length]? =some x:=by simpa using (hl 0).symm
   rw [hx] at ho';obtain rfl:=Af ho';have hg:(acc++[x.after.toList.foldl (fun s e=>bif Region.binds .any e then s||| (2 ^ e.on)||| acc.getD e.on 0 else s) 0]).getD acc.length 0=x.after.toList.foldl (fun s e=>bif Region.binds .any e then s||| (2 ^ e.on)||| acc.getD e.on 0 else s) 0:=by
    grind
   rw [hg] at hi';rcases y8w acc i' _ _ hi' with h0 | ⟨e,he,hb,h1⟩
   ·simp at h0
   ·have hlt':=eJ _ _ hx e he hb;rcases h1 with rfl | h1
    ·exact ⟨hlt',fun S _ hr=>hr e he hb⟩
    ·have ho2:ops[e.on]? =some (ops[e.on]'(by grind)):=(by simp);obtain ⟨q1,q2⟩:=hacc e.on _ hlt' ho2 i' h1;exact ⟨by omega,fun S hc hr=>q2 S hc fun e' he' hb'=>hc e.on _ ho2 (hr e he hb) e' he' hb'⟩
theorem y5o {z:Nat} {op:Op} {k:Kind} (hk:k≠ .lit) (hb:k≠ .birth):Yc z op=k↔Yp op=k∧x3m z op=false∧isBirth z op=false:=by
 grind [Yc]
theorem x3l {z:Nat} {op:Op} (h:x3m z op=true):Yp op=.chain :=by
 cases op <;> first | rfl | (cases h;done)
theorem y5p {z:Nat} {op:Op} (h:isBirth z op=true):Yp op=.chain :=by
 cases op <;> first | rfl | (cases h;done)
theorem y8k {z:Nat} {op:Op} {k:Kind} (hk:k≠ .lit) (hb:k≠ .birth) (hc:k≠ .chain):Yc z op=k↔Yp op=k:=by
 rw [y5o hk hb]
 grind [x3l,y5p]
theorem z0a {z:Nat} {op:Op}:Yc z op=.alloc ↔Yp op=.alloc :=y8k (fun h=>by cases h) (fun h=>by cases h) fun h=>by cases h
theorem y3j {z:Nat} {op:Op}:Yc z op=.read ↔Yp op=.read :=y8k (fun h=>by cases h) (fun h=>by cases h) fun h=>by cases h
theorem y0m {z:Nat} {op:Op} (h:Yc z op=.birth):isBirth z op=true:=by
 grind [Yc,z7o]
structure w7a (z:Nat) (ops:Array Oper):Prop where
 ord: ∀(j:Nat) o,ops[j]? =some o→ ∀e∈o.after.toList,Region.binds .any e=true→e.on<j
 guard: ∀(j:Nat) o,ops[j]? =some o→(Yc z o.op=.alloc ∨Yc z o.op=.birth)→o.guard=none
 bits: ∀(j:Nat) o,ops[j]? =some o→ ∀i,((w1l ops.toList []).getD j 0).testBit i=true→i<j∧z7v ops i o
 pair: ∀(i j:Nat) p o,i<j→ops[i]? =some p→ops[j]? =some o→z7v ops i o∨(p.apart ops o=true∧x3d (Yc z p.op) (Yc z o.op)=true∧(Yc z o.op=.read →z1e ops i=true)∧(Yc z p.op=.read →z1e ops j=true))
 dst: ∀(i j:Nat) p o d,i<j→ops[i]? =some p→ops[j]? =some o→p.dst=some d→o.dst≠some d
 alloc: ∀(i j:Nat) p o,i<j→ops[i]? =some p→ops[j]? =some o→Yc z o.op=.alloc →p.apart ops o=true
 birth: ∀(i j:Nat) p o,i<j→ops[i]? =some p→ops[j]? =some o→Yc z o.op=.birth → ¬(Yc z p.op=.chain ∨Yc z p.op=.call)
theorem z3p {z:Nat} (h:y1c z ops=true):w7a z ops:=by
 have hj: ∀(j:Nat) o,ops[j]? =some o→(o.after.toList.all (fun e=> !Region.binds .any e||Nat.ble (e.on+1) j)=true∧(!(Yp o.op == .alloc ||isBirth z o.op)||o.guard.isNone)=true)∧ ∀(i:Nat) p,i<j→ops[i]? =some p→x6e z ops i j p o=true:=by
  intro j o ho;have hlt:j<ops.size:=(AC.1 ho).1;have:=Aw.1 h j (AN.2 hlt)
  grind
 have ord: ∀(j:Nat) o,ops[j]? =some o→ ∀e∈o.after.toList,Region.binds .any e=true→e.on<j:=by intro j o ho e he hb;have:=Aw.1 (hj j o ho).1.1 e he;rw [hb] at this;exact Ai (by grind)
 have bits:=y9c ord ops.toList [] (by simp) (fun k=>by simp) (fun k o hk=>by simp at hk);refine ⟨ord,fun j o ho hk=> ?_,fun j o ho i hb=>bits j o ho i hb,fun i j p o hij hp ho=> ?_,fun i j p o d hij hp ho hd=> ?_,fun i j p o hij hp ho hk=> ?_,fun i j p o hij hp ho hk hc=> ?_⟩
 ·have:=(hj j o ho).1.2;rcases hk with hk | hk;all_goals simp_all [z0a,y0m]
 ·have hpo:=(hj j o ho).2 i p hij hp;unfold x6e at hpo;simp only [Ac,BB] at hpo;cases hb:((w1l ops.toList []).getD j 0).testBit i with
  | true=>grind
  | false=>
   right;rcases hpo.1.1.1 with h1 | ⟨h1,h2⟩
   ·grind
   ·have hi:i<ops.size:=(AC.1 hp).1;have hjl:j<ops.size:=(AC.1 ho).1;refine ⟨h1,h2,fun hr=> ?_,fun hr=> ?_⟩
    ·unfold z1e;rw [BN];refine ⟨j,AN.2 hjl,?_⟩;rw [ho,Option.any_some,y3j.1 hr,hb];have:Nat.ble (i+1) j=true:=AO hij
     grind
    ·unfold z1e;rw [BN];refine ⟨i,AN.2 hi,?_⟩;rw [hp,Option.any_some,y3j.1 hr,hb];have:Nat.ble (i+1) j=true:=AO hij
     grind
 all_goals grind [x6e,z0a,y0m]
theorem Wr {z:Nat} {i:Nat} {o:Oper} (ho:ops[i]? =some o):isAlloc ops i=true↔Yc z o.op=.alloc :=by
 grind [z0a,isAlloc]
theorem z5y (i:Nat):i∈Zi ops↔i<ops.size:=by
 grind [Zi]
theorem Yf :(Zi ops).length =ops.size:=by
 unfold Zi;rw [AL,←List.countP_eq_length_filter,←List.countP_eq_length_filter];have:=List.length_eq_countP_add_countP (isAlloc ops) (l:=List.range ops.size)
 grind
def Ord (ops:Array Oper) (i j:Nat):Prop:=(isAlloc ops i=true∧isAlloc ops j=false)∨(isAlloc ops i=isAlloc ops j∧i<j)
theorem z5x :(Zi ops).Pairwise (Ord ops):=by
 unfold Zi;rw [List.pairwise_append];have hr:(List.range ops.size).Pairwise (· < ·):=List.pairwise_lt_range;refine ⟨?_,?_,?_⟩
 ·refine ((hr.filter _).imp_of_mem fun {a b} ha hb h=> ?_);have h1:=(Bn.1 ha).2;have h2:=(Bn.1 hb).2;exact .inr ⟨h1.trans h2.symm,h⟩
 ·refine ((hr.filter _).imp_of_mem fun {a b} ha hb h=> ?_);have h1:=(Bn.1 ha).2;have h2:=(Bn.1 hb).2;refine .inr ⟨?_,h⟩
  grind
 ·intro a ha b hb;have h1:=(Bn.1 ha).2;have h2:=(Bn.1 hb).2;exact .inl ⟨h1,by grind⟩
theorem y5v {k1 k2:Nat} (h:k1<k2) (h2:k2<(Zi ops).length):Ord ops ((Zi ops)[k1]'(by omega)) (Zi ops)[k2]:=
 BE.1 z5x k1 k2 (by omega) h2 h
end
def y9s (ops:Array Oper) (x y:Foot):Prop:=clash x.2.1 y.2.2=true∨clash x.2.2 y.2.1=true→ordered ops x.1 y.1=true
theorem x3y {ops:Array Oper} {x y:Foot} (h:x7b ops x y=true):y9s ops x y:=by
 intro hc
 grind [x7b]
theorem Qo {z:Nat} {P:Program} {S:Specs} {R:Runner} {ops:Array Oper} {cx:Ctx}: ∀(l:List (Nat×Bool×Oper)) (acc:List Foot) (st st':St),z6m z P S R ops cx l acc st=some st'→
  ∃f:Nat→St,f 0=st∧f l.length=st'∧(∀(k:Nat) (h:k<l.length),x0e z P S R ops cx l[k].2 (f k)=some (f (k+1)))∧
   (∀(k:Nat) (h:k<l.length),∀y∈acc,y9s ops (z1g S l[k] (f k).eval) y∨lateF z ops l[k] (f k).eval (f k).mem y=true)∧
   ∀(q k:Nat) (hq:q<k) (h:k<l.length),y9s ops (z1g S l[k] (f k).eval) (z1g S (l[q]'(by omega)) (f q).eval)∨lateF z ops l[k] (f k).eval (f k).mem (z1g S (l[q]'(by omega)) (f q).eval)=true
 | [],acc,st,st',h=>by have h:some st=some st':=h;obtain rfl:=Af h;exact ⟨fun _=>st,rfl,rfl,fun k h=>by simp at h,fun k h=>by simp at h,fun q k _ h=>by simp at h⟩
 | x::l,acc,st,st',h=>by
  have h:(bif acc.all (fun y=>x7b ops (z1g S x st.eval) y||lateF z ops x st.eval st.mem y) then
    match x0e z P S R ops cx x.2 st with
    | some st'=>z6m z P S R ops cx l (z1g S x st.eval::acc) st'
    | none=>none
   else none)=some st':=h
  obtain ⟨hacc,h⟩:=Zq h;split at h
  ·rename_i st1 h1;obtain ⟨f,f0,fn,fs,fa,fp⟩:=Qo l _ st1 st' h;refine ⟨fun k=>match k with | 0=>st | k+1=>f k,rfl,fn,fun k hk=> ?_,fun k hk y hy=> ?_,fun q k hqk hk=> ?_⟩;all_goals grind [x3y]
  ·cases h
theorem y6v {S:Specs} {op:Op} (h:Yp op=.chain) (ev:Operand→AVal):wrC S op ev=y6p op ev:=by
 cases op with
 | call c=>
  obtain ⟨callee,args,argTypes⟩:=c;cases callee with
  | value f=>cases h
  | _=>rfl
 | _=>rfl
theorem z0f (p q:Nat→Bool) (i:Nat): ∀(n:Nat),(∀k,k≠i→q k=p k)→p i=true→q i=false→i<n→(List.range n).countP q+1=(List.range n).countP p
 | 0,_,_,_,h=>absurd h (AA _)
 | n+1,hpq,hp,hq,h=>by
  rw [List.range_succ,List.countP_append,List.countP_append];by_cases hi:i<n
  ·have:=z0f p q i n hpq hp hq hi
   grind
  ·have hin:i=n:=by omega
   subst hin;have e:(List.range i).countP q=(List.range i).countP p:=List.countP_congr fun k hk=>by
    grind
   grind
section
variable {P:Program}
theorem Rel.unborn {ρ:Rho} {mem:Mem} {next:Nat} {w:World} (h:Rel ρ mem next w) (o:Option ABlk):Rel ρ (Yr mem next o) (next+1) w:=by
 have ne: ∀b l,ρ b=some l→b≠next:=fun b l e=>by have:=h.dom b l e;omega
 refine ⟨fun b l e=>by have:=h.dom b l e;omega,fun b b' l l' e e' he hs hs'=> ?_,fun b l ab e hm=> ?_,h.old,fun b l e hs=>h.sep b l e (by rwa [Zx _ _ (ne b l e)] at hs),h.real,fun b hb=>by rw [Zx _ _ (by omega)];exact h.bd b (by omega),⟨fun j l e=>Bb (h.ldom.1 j l e),h.ldom.2⟩⟩
 ·rw [Zx _ _ (ne b l e)] at hs;rw [Zx _ _ (ne b' l' e')] at hs';exact h.inj b b' l l' e e' he hs hs'
 ·rw [Zx _ _ (ne b l e)] at hm;exact h.blk b l ab e hm
theorem Rel.birth {ρ:Rho} {mem:Mem} {next:Nat} {w:World} (h:Rel ρ mem next w) {b:Nat} {cs:List AVal} {ty:TypeId} (hb:b<next) (hn:ρ b=none) (hm:Zt mem b=some ⟨cs,ty,none⟩) {vs:Array Value} (el:TypeId) (hv:Wx ρ cs vs) (hel:el=ty):
  Rel (Xs ρ b ⟨w.heap.size,0,cs.length,vs.size⟩) mem next {w with heap:=w.heap.push (.cells vs el)}:=by
 have hle:=Uc (l:=⟨w.heap.size,0,cs.length,vs.size⟩) hn;have dC: ∀c l,Xs ρ b ⟨w.heap.size,0,cs.length,vs.size⟩ c=some l→(c=b∧l=⟨w.heap.size,0,cs.length,vs.size⟩)∨(c≠b∧ρ c=some l):=fun c l e=>by
  grind [Ww]
 refine ⟨fun c l e=> ?_,fun c c' l l' e e' hbl hs hs'=> ?_,fun c l ab e hc=> ?_,fun k o e=> ?_,fun c l e=> ?_,fun c l e=> ?_,h.bd,h.ldom⟩
 ·rcases dC c l e with ⟨rfl,_⟩ | ⟨_,e⟩
  ·exact hb
  ·exact h.dom c l e
 ·rcases dC c l e with ⟨hc,hl⟩ | ⟨hc,e2⟩ <;> rcases dC c' l' e' with ⟨hc',hl'⟩ | ⟨hc',e2'⟩
  ·rw [hc,hc']
  ·have:=h.real c' l' e2';grind
  ·have:=h.real c l e2;grind
  ·exact h.inj c c' l l' e2 e2' hbl hs hs'
 ·rcases dC c l e with ⟨rfl,rfl⟩ | ⟨_,e⟩
  ·rw [hm] at hc;obtain rfl:=Af hc;have h1:=hv.1;refine .plain ⟨by simp [hel],rfl,by grind,(fun A e=>by cases e),vs,el,by simp,by simp,fun i hi=> ?_⟩;have h2:i<vs.size:=by grind
   exact ⟨vs[i],by grind,(hv.2 i hi h2).mono hle⟩
  ·refine (h.blk c l ab e hc).world hle ?_;have:=h.real c l e
   grind
 ·have hk:=h.old k o e
  grind
 ·intro hs;rcases dC c l e with ⟨rfl,rfl⟩ | ⟨_,e⟩
  ·exact h.hold _ (Ao _)
  ·exact h.sep c l e hs
 ·rcases dC c l e with ⟨rfl,rfl⟩ | ⟨_,e⟩
  ·simp
  ·have:=h.real c l e;simp;omega
structure Reg (S:Specs) (z:Nat) (P:Program) (ops:Array Oper) (cx:Ctx) (st:St) (f:Nat→St):Prop where
 chk:w7a z ops
 f0:f 0=st
 hcx:cx.floor≤st.next
 ob: ∀k,k≤ops.size→(f k).ob =true
 step: ∀(k:Nat) (h:k<(Zi ops).length),v2l S z P ops cx (z1e ops (Zi ops)[k],ops.getD (Zi ops)[k] default) (f k) (f (k+1))
 foot: ∀(q k:Nat) (hq:q<k) (h:k<(Zi ops).length),y9s ops (z1g S ((Zi ops)[k],z1e ops (Zi ops)[k],ops.getD (Zi ops)[k] default) (f k).eval) (z1g S ((Zi ops)[q],z1e ops (Zi ops)[q],ops.getD (Zi ops)[q] default) (f q).eval)∨
  lateF z ops ((Zi ops)[k],z1e ops (Zi ops)[k],ops.getD (Zi ops)[k] default) (f k).eval (f k).mem (z1g S ((Zi ops)[q],z1e ops (Zi ops)[q],ops.getD (Zi ops)[q] default) (f q).eval)=true
variable {Sp:Specs} {z:Nat} {ops:Array Oper} {cx:Ctx} {st:St} {f:Nat→St}
def at_ (ops:Array Oper) (k:Nat):Nat:=(Zi ops).getD k ops.size
theorem v2g {k:Nat} (h:k<ops.size):at_ ops k<ops.size:=by
 have hl:k<(Zi ops).length :=by rw [Yf];exact h
 have:at_ ops k=(Zi ops)[k]:=by simp [at_,hl]
 rw [this];exact (z5y _).1 (AU hl)
theorem Qp {k1 k2:Nat} (h:k1<k2) (h2:k2<ops.size):Ord ops (at_ ops k1) (at_ ops k2):=by
 grind [Yf,y5v,at_]
theorem u2o {i:Nat} (h:i<ops.size): ∃k,k<ops.size∧at_ ops k=i:=by obtain ⟨k,hk,e⟩:=A1 ((z5y (ops:=ops) i).2 h);exact ⟨k,by rw [Yf] at hk;exact hk,by simp [at_,hk,e]⟩
theorem Reg.step' (g:Reg Sp z P ops cx st f) {k:Nat} (h:k<ops.size): ∃o,ops[at_ ops k]? =some o∧v2l Sp z P ops cx (z1e ops (at_ ops k),o) (f k) (f (k+1)):=by
 have hl:k<(Zi ops).length :=by rw [Yf];exact h
 have e:at_ ops k=(Zi ops)[k]:=by simp [at_,hl]
 have hlt:=v2g h;refine ⟨ops[at_ ops k],by simp [hlt],?_⟩;have:=g.step k hl;rw [←e] at this;have hd:ops.getD (at_ ops k) default=ops[at_ ops k]:=by simp [hlt]
 grind
theorem Reg.foot' (g:Reg Sp z P ops cx st f) {q k:Nat} (hq:q<k) (h:k<ops.size) {o x:Oper} (ho:ops[at_ ops k]? =some o) (hx:ops[at_ ops q]? =some x):
  y9s ops (at_ ops k,x1z o.op (f k).eval,wrC Sp o.op (f k).eval) (at_ ops q,x1z x.op (f q).eval,wrC Sp x.op (f q).eval)∨lateF z ops (at_ ops k,z1e ops (at_ ops k),o) (f k).eval (f k).mem (at_ ops q,x1z x.op (f q).eval,wrC Sp x.op (f q).eval)=true:=by
 have hl:k<(Zi ops).length :=by rw [Yf];exact h
 have hl2:q<(Zi ops).length :=by omega
 have e:at_ ops k=(Zi ops)[k]:=by simp [at_,hl]
 have e2:at_ ops q=(Zi ops)[q]:=by simp [at_,hl2]
 have:=g.foot q k hq hl;rw [←e,←e2] at this;have hd:ops.getD (at_ ops k) default=o:=by simp [ho]
 have hd2:ops.getD (at_ ops q) default=x:=by simp [hx]
 rw [hd,hd2] at this;exact this
theorem Reg.next_le (g:Reg Sp z P ops cx st f): ∀{a b:Nat},a≤b→b≤ops.size→(f a).next ≤(f b).next :=by
 intro a b hab hb
 induction b with
 | zero=>grind
 | succ b ih=>
  by_cases e:a=b+1
  ·grind
  ·obtain ⟨o,_,s⟩:=g.step' (k:=b) (by omega);exact AG (ih (by omega) (by omega)) s.inv.nxt
theorem Reg.bd (g:Reg Sp z P ops cx st f) (h0: ∀b,st.next≤b→Zt st.mem b=none): ∀{k:Nat},k≤ops.size→ ∀b,(f k).next ≤b→Zt (f k).mem b=none:=by
 intro k hk
 induction k with
 | zero=>rw [g.f0];exact h0
 | succ k ih=>obtain ⟨o,_,s⟩:=g.step' (k:=k) (by omega);exact s.inv.bd (ih (by omega))
theorem Reg.slot_stays (g:Reg Sp z P ops cx st f) {t:Tmp}: ∀{a b:Nat},a≤b→b≤ops.size→(∀k o,a≤k→k<b→ops[at_ ops k]? =some o→o.dst≠some t)→(f b).tmp t=(f a).tmp t:=by
 intro a b hab hb hno
 induction b with
 | zero=>grind
 | succ b ih=>
  by_cases e:a=b+1
  ·subst e;rfl
  ·obtain ⟨o,ho,s⟩:=g.step' (k:=b) (by omega);rw [s.other (g.ob _ hb) t (hno b o (by omega) (by omega) ho)]
   grind
def Un (z:Nat) (o:Oper):Prop:=Yc z o.op=.chain ∨Yc z o.op=.call
def x2g (z:Nat) (o:Oper):Prop:=Yc z o.op=.pure ∨Yc z o.op=.lit
def z5j (z:Nat) (o:Oper):Prop:=Yc z o.op=.alloc ∨Yc z o.op=.birth
theorem x3e (z:Nat) (o:Oper):x2g z o∨Yc z o.op=.read ∨z5j z o∨Un z o:=by unfold Un x2g z5j;cases Yc z o.op <;> simp
theorem Reg.mem_stays (g:Reg Sp z P ops cx st f): ∀{a b:Nat},a≤b→b≤ops.size→(∀k o,a≤k→k<b→ops[at_ ops k]? =some o→x2g z o∨Yc z o.op=.read)→(f b).mem =(f a).mem ∧(f b).next =(f a).next :=by
 intro a b hab hb hno
 induction b with
 | zero=>grind
 | succ b ih=>
  by_cases e:a=b+1
  ·grind
  ·obtain ⟨o,ho,s⟩:=g.step' (k:=b) (by omega);obtain ⟨e1,e2⟩:=s.stay (by rcases hno b o (by omega) (by omega) ho with (k | k) | k <;> simp [k])
   grind
theorem Reg.blk_stays (g:Reg Sp z P ops cx st f) {x:Nat}: ∀{a b:Nat},a≤b→b≤ops.size→x<(f a).next →
  (∀k o,a≤k→k<b→ops[at_ ops k]? =some o→x2g z o∨Yc z o.op=.read ∨(Yc z o.op=.call ∧z1e ops (at_ ops k)=true∧wrC Sp o.op (f k).eval ≠some x)∨(Yc z o.op=.chain ∧y6p o.op (f k).eval ≠some x)∨z5j z o)→Zt (f b).mem x=Zt (f a).mem x:=by
 intro a b hab hb hx hno
 induction b with
 | zero=>grind
 | succ b ih=>
  by_cases e:a=b+1
  ·subst e;rfl
  ·obtain ⟨o,ho,s⟩:=g.step' (k:=b) (by omega);have ih:=ih (by omega) (by omega) fun k o h1 h2=>hno k o h1 (by omega);rw [←ih];rcases hno b o (by omega) (by omega) ho with h1 | h1 | ⟨h1,h2,h3⟩ | ⟨h1,h2⟩ | h1
   ·rw [(s.stay (by rcases h1 with k | k <;> simp [k])).1]
   ·rw [(s.stay (.inr (.inl h1))).1]
   ·exact s.lift (g.ob _ hb) h2 h1 x (AP hx (g.next_le (by omega) (by omega))) h3
   ·exact s.foot (g.ob _ hb) h1 x (AP hx (g.next_le (by omega) (by omega))) h2
   ·obtain ⟨cells,ty,e1,_,_⟩:=s.fresh (g.ob _ hb) h1 (g.chk.guard _ o ho h1);have:=AP hx (g.next_le (a:=a) (b:=b) (by omega) (by omega));rw [e1,Zx _ _ (by omega)]
structure Inv (z:Nat) (P:Program) (D:List Deferred) (ops:Array Oper) (cx:Ctx) (st:St) (f:Nat→St) (ρ0:Rho) (w0:World) (S:Nat→Bool) (p:Nat) (ρ:Rho) (a:Act) (w:World):Prop where
 closed:z6g ops S
 defers:a.defers=D
 tsz:a.tmps.size=cx.n
 done: ∀k o d,k<ops.size→ops[at_ ops k]? =some o→S (at_ ops k)=true→o.dst=some d→Za ρ ((f (k+1)).tmp d) (a.tmps.getD d undef)
 undone: ∀t,(∀i o,ops[i]? =some o→S i=true→o.dst≠some t)→Za ρ (st.tmp t) (a.tmps.getD t undef)
 ple:p≤ops.size
 past: ∀k o,k<ops.size→ops[at_ ops k]? =some o→z5j z o→k<p
 chain: ∀k o,k<ops.size→ops[at_ ops k]? =some o→Un z o→(S (at_ ops k)=true↔k<p)
 rel:Rel ρ (f p).mem (f p).next w
 ev:Ev ρ0 ρ cx.floor st.mem st.next (f p).mem (f p).next w0 w
 late: ∀k q o x b ab,k<q→q<p→q<ops.size→ops[at_ ops k]? =some o→ops[at_ ops q]? =some x→S (at_ ops k)=false→Un z x→Kf z ops (at_ ops k) (at_ ops q)=true→x4w x.op (f q).eval (f q).mem =some b→Zt (f q).mem b=some ab→Rel ρ (Yr .leaf b (some ab)) (f p).next w
 allocs: ∀k o,k<ops.size→ops[at_ ops k]? =some o→z5j z o→S (at_ ops k)=false→st.next≤(f k).next ∧(f k).next <(f p).next ∧ρ (f k).next =none∧Zt (f p).mem (f k).next =Zt (f (k+1)).mem (f k).next
theorem y0j {o:Oper} {t:Tmp} (h:Operand.tmp t∈o.op.operands):t∈o.looksAt ops:=by unfold Oper.looksAt;rw [AW];left;rw [List.mem_filterMap];exact ⟨.tmp t,Array.mem_toList_iff.2 h,rfl⟩
theorem y5k {o:Oper} {d:Tmp} (h:Wc ops o=some d):d∈o.looksAt ops:=by
 grind [Oper.looksAt,Wc]
theorem x4x (g:Reg Sp z P ops cx st f) {i:Nat} {o:Oper} (ho:ops[i]? =some o) (hk:Yc z o.op=.alloc):o.looksAt ops=[]:=by
 unfold Oper.looksAt;rw [g.chk.guard i o ho (.inl hk)];rw [z0a] at hk;obtain ⟨dst,op,type,pos,after,guard⟩:=o;simp only at hk ⊢;cases op with
 | alloc t=>rfl
 | call c=>
  obtain ⟨callee,args,argTypes⟩:=c;cases callee with
  | builtin b=>cases b <;> cases hk
  | value f=>cases hk
  | invoke r m=>cases hk
 | _=>cases hk
section
variable {D:List Deferred} {ρ0:Rho} {w0:World} {S:Nat→Bool} {p:Nat} {ρ:Rho} {a:Act} {w:World}
theorem y5w (g:Reg Sp z P ops cx st f) {i j:Nat} {x y:Oper} {d:Tmp} (hi:ops[i]? =some x) (hj:ops[j]? =some y) (hx:x.dst=some d) (hy:y.dst=some d):i=j:=by
 rcases Bd i j with h | h | h
 ·exact absurd hy (g.chk.dst i j x y d h hi hj hx)
 ·exact h
 ·exact absurd hx (g.chk.dst j i y x d h hj hi hy)
theorem Inv.looks (g:Reg Sp z P ops cx st f) (I:Inv z P D ops cx st f ρ0 w0 S p ρ a w) {k:Nat} {o:Oper} (hk:k<ops.size) (ho:ops[at_ ops k]? =some o) (hns:S (at_ ops k)=false) (dE:y6n S o) {t:Tmp} (ht:t∈o.looksAt ops):
  Za ρ ((f k).tmp t) (a.tmps.getD t undef):=by
 by_cases hw: ∃i x,ops[i]? =some x∧S i=true∧x.dst=some t
 ·obtain ⟨i,x,hx,hs,hd⟩:=hw;have hil:i<ops.size:=(AC.1 hx).1;obtain ⟨k',hk',rfl⟩:=u2o hil;have hne:k'≠k:=fun e=>by grind
  have hlt:k'<k:=by
   rcases AV k' k with h | h
   ·exact h
   ·exfalso;have hkk:k<k':=(by omega);rcases Bd (at_ ops k) (at_ ops k') with hij | hij | hij
    ·rcases g.chk.pair _ _ _ _ hij ho hx with hf | ⟨hap,_⟩
     ·have:=hf S I.closed (fun e he hb=>I.closed _ _ hx hs e he hb)
      grind
     grind [Oper.apart_spec]
    ·grind
    ·rcases Qp hkk hk' with ⟨h1,_⟩ | ⟨_,h2⟩;all_goals grind [x4x,Wr]
  have hst:(f k).tmp t=(f (k'+1)).tmp t:=g.slot_stays (by omega) (by omega) fun q y h1 h2 hy hyd=>by
   have:=y5w g hx hy hd hyd;have e:at_ ops k'=at_ ops q:=this;rcases Qp (ops:=ops) (k1:=k') (k2:=q) (by omega) (by omega) with ⟨h1,h2⟩ | ⟨_,h2⟩;all_goals grind
  rw [hst];exact I.done k' x t hk' hx hs hd
 ·have hno: ∀i x,ops[i]? =some x→S i=true→x.dst≠some t:=fun i x hx hs hd=>hw ⟨i,x,hx,hs,hd⟩;have hst:(f k).tmp t=(f 0).tmp t:=g.slot_stays (AE _) (by omega) fun q y _ h2 hy hyd=>by
   have hqs:S (at_ ops q)=false:=by
    grind
   rcases Bd (at_ ops q) (at_ ops k) with hij | hij | hij
   ·rcases g.chk.pair _ _ _ _ hij hy ho with hf | ⟨hap,_⟩
    ·have:=hf S I.closed dE
     grind
    grind [Oper.apart_spec]
   ·rcases Qp (ops:=ops) h2 hk with ⟨h1,h3⟩ | ⟨_,h3⟩;all_goals grind
   ·rcases Qp (ops:=ops) h2 hk with ⟨h1,_⟩ | ⟨_,h3⟩
    ·have hap:=g.chk.alloc _ _ _ _ hij ho hy ((Wr (z:=z) hy).1 h1)
     grind [Oper.apart_spec]
    ·omega
  rw [hst,g.f0];exact I.undone t hno
theorem Inv.operands (g:Reg Sp z P ops cx st f) (I:Inv z P D ops cx st f ρ0 w0 S p ρ a w) {k:Nat} {o:Oper} (hk:k<ops.size) (ho:ops[at_ ops k]? =some o) (hns:S (at_ ops k)=false) (dE:y6n S o):Vr ρ (f k).eval a.eval o.op:=by
 intro x hx;cases x with
 | tmp t=>exact I.looks g hk ho hns dE (y0j hx)
 | const v=>exact w4n v
 | global g=>exact .undef _
 | func f=>exact .fn f [] #[] rfl fun i h1 _=>by simp at h1
theorem Inv.slots (g:Reg Sp z P ops cx st f) (I:Inv z P D ops cx st f ρ0 w0 S p ρ a w) {k:Nat} {o:Oper} (hk:k<ops.size) (ho:ops[at_ ops k]? =some o) (hns:S (at_ ops k)=false) {ρ':Rho} (hle:ρ.le ρ') {u:Value}
  (dK: ∀d,o.dst=some d→Za ρ' ((f (k+1)).tmp d) u) {S':Nat→Bool} (hS: ∀i,S' i=(S i||i == at_ ops k)):
  (∀k' x d,k'<ops.size→ops[at_ ops k']? =some x→S' (at_ ops k')=true→x.dst=some d→Za ρ' ((f (k'+1)).tmp d) ((a.put o.dst u).tmps.getD d undef))∧
  (∀t,(∀i x,ops[i]? =some x→S' i=true→x.dst≠some t)→Za ρ' (st.tmp t) ((a.put o.dst u).tmps.getD t undef)):=by
 have other: ∀t,o.dst≠some t→(a.put o.dst u).tmps.getD t undef=a.tmps.getD t undef:=fun t ht=>by
  cases hd:o.dst with
  | none=>rfl
  | some d=>simp_all [Act.put]
 obtain ⟨_,ho',s⟩:=g.step' hk;rw [ho] at ho';obtain rfl:=Af ho';refine ⟨fun k' x d hk' hx hs hd=> ?_,fun t hno=> ?_⟩
 ·by_cases hod:o.dst=some d
  ·have e:=y5w g ho hx hod hd;have hkk:k'=k:=by
    rcases Bd k' k with h | h | h
    ·rcases Qp (ops:=ops) h hk with ⟨h1,h3⟩ | ⟨_,h3⟩;all_goals grind
    ·exact h
    ·rcases Qp (ops:=ops) h hk' with ⟨h1,h3⟩ | ⟨_,h3⟩;all_goals grind
   subst hkk;have hlt:d<a.tmps.size:=by rw [I.tsz];exact s.slot d hod
   simp_all [Act.put]
  ·rw [other d hod];have hne:at_ ops k'≠at_ ops k:=fun e=>by
    grind
   have hs':S (at_ ops k')=true:=by
    grind
   exact (I.done k' x d hk' hx hs' hd).mono hle
 ·have hod:o.dst≠some t:=hno _ o ho (by rw [hS];simp);rw [other t hod];exact (I.undone t fun i x hx hs=>hno i x hx (by grind)).mono hle
theorem Inv.closes (I:Inv z P D ops cx st f ρ0 w0 S p ρ a w) {i:Nat} {o:Oper} (ho:ops[i]? =some o) (dE:y6n S o) {S':Nat→Bool} (hS: ∀j,S' j=(S j||j == i)):z6g ops S':=by
 intro j x hx hs e he hb;rw [hS] at hs ⊢;by_cases hj:j=i
 ·subst hj;rw [ho] at hx;obtain rfl:=Af hx;rw [dE e he hb];rfl
 ·have:S j=true:=by grind
  rw [I.closed j x hx this e he hb];rfl
theorem w0h {i:Nat} {l:Bool} {o:Oper} {ev:Operand→AVal} {mem:Mem} {y:Foot} (h:Yc z o.op=.read):lateF z ops (i,l,o) ev mem y=false:=by
 have hk:x4w o.op ev mem=none:=by
  unfold x4w;split
  ·rename_i e;rw [e] at h;cases h
  ·rfl
 unfold lateF
 grind
theorem w0g {i j b:Nat} {l:Bool} {x:Oper} {ev:Operand→AVal} {mem:Mem} {wr:Option Nat} (h:lateF z ops (i,l,x) ev mem (j,some b,wr)=true):Kf z ops j i=true∧x4w x.op ev mem=some b:=by
 unfold lateF at h;split at h
 ·rename_i j' b' e;simp only [Aa,Ab] at e;obtain ⟨rfl,rfl,rfl⟩:=e;split at h;all_goals simp_all
 ·cases h
theorem Inv.between (g:Reg Sp z P ops cx st f) (I:Inv z P D ops cx st f ρ0 w0 S p ρ a w) {k:Nat} {o:Oper} (hk:k<ops.size) (ho:ops[at_ ops k]? =some o) (hns:S (at_ ops k)=false) (dE:y6n S o) (fA:Yc z o.op=.read) {b:Nat} (hb:x1z o.op (f k).eval =some b):
  (∀q x,p≤q→q<k→ops[at_ ops q]? =some x→x2g z x∨Yc z x.op=.read ∨(Yc z x.op=.call ∧z1e ops (at_ ops q)=true∧wrC Sp x.op (f q).eval ≠some b)∨(Yc z x.op=.chain ∧y6p x.op (f q).eval ≠some b)∨z5j z x)∧
  (∀q x,k≤q→q<p→ops[at_ ops q]? =some x→x2g z x∨Yc z x.op=.read ∨(Yc z x.op=.call ∧z1e ops (at_ ops q)=true∧wrC Sp x.op (f q).eval ≠some b)∨(Yc z x.op=.chain ∧y6p x.op (f q).eval ≠some b)∨z5j z x∨(Un z x∧Kf z ops (at_ ops k) (at_ ops q)=true∧x4w x.op (f q).eval (f q).mem =some b)):=by
 have nal:isAlloc ops (at_ ops k)=false:=by
  grind [Wr]
 constructor
 ·intro q x h1 h2 hx;rcases x3e z x with h | h | h | h
  ·exact .inl h
  ·grind
  ·grind
  ·have hqs:S (at_ ops q)=false:=by
    cases e:S (at_ ops q) with
    | false=>rfl
    | true=>have:=(I.chain q x (by omega) hx h).1 e;omega
   have hlt:at_ ops q<at_ ops k:=by
    rcases Qp (ops:=ops) h2 hk with ⟨h3,_⟩ | ⟨_,h3⟩
    ·have:=I.past q x (by omega) hx (.inl ((Wr (z:=z) hx).1 h3));omega
    ·exact h3
   rcases g.chk.pair _ _ _ _ hlt hx ho with hf | ⟨_,hkd,hl,_⟩
   ·have:=hf S I.closed dE
    grind
   ·have no:wrC Sp x.op (f q).eval ≠some b:=fun hw=>by
     have:=(g.foot' h2 hk ho hx).resolve_right (fun hl=>by
      rw [w0h fA] at hl;cases hl) (.inl (by rw [hb,hw];exact Bv b))
     unfold ordered at this;simp only [BB] at this;rcases this with this | this
     ·have:=(g.chk.bits _ _ hx _ this).1;omega
     ·have:=(g.chk.bits _ _ ho _ this).2 S I.closed dE
      grind
    rcases h with h | h;all_goals simp_all [y6v,y5o]
 ·intro q x h1 h2 hx;have hp:=I.ple;rcases x3e z x with h | h | h | h
  ·exact .inl h
  ·grind
  ·grind
  ·have hqs:S (at_ ops q)=true:=(I.chain q x (by omega) hx h).2 h2;have hne:q≠k:=fun e=>by grind
   have hlt:at_ ops k<at_ ops q:=by
    rcases Qp (ops:=ops) (k1:=k) (k2:=q) (by omega) (by omega) with ⟨h3,_⟩ | ⟨_,h3⟩;all_goals grind
   rcases g.chk.pair _ _ _ _ hlt ho hx with hf | ⟨_,hkd,_,hl⟩
   ·have:=hf S I.closed fun e he hb=>I.closed _ _ hx hqs e he hb
    grind
   ·rcases g.foot' (q:=k) (k:=q) (by omega) (by omega) hx ho with hfo | hla
    rotate_left
    ·grind [w0g]
    have no:wrC Sp x.op (f q).eval ≠some b:=fun hw=>by
     have:=hfo (.inr (by rw [hb,hw];exact Bv b));unfold ordered at this;simp only [BB] at this;rcases this with this | this
     ·have:=(g.chk.bits _ _ ho _ this).1;omega
     ·have:=(g.chk.bits _ _ hx _ this).2 S I.closed fun e he hb=>I.closed _ _ hx hqs e he hb
      grind
    rcases h with h | h;all_goals simp_all [y6v,y5o]
theorem Inv.next_chain (g:Reg Sp z P ops cx st f) (I:Inv z P D ops cx st f ρ0 w0 S p ρ a w) {k:Nat} {o:Oper} (hk:k<ops.size) (ho:ops[at_ ops k]? =some o) (hns:S (at_ ops k)=false) (dE:y6n S o) (hch:Un z o):
  p≤k∧(∀q x,q<ops.size→ops[at_ ops q]? =some x→Un z x→(S (at_ ops q)=true↔q<k)):=by
 have nal:isAlloc ops (at_ ops k)=false:=by
  cases e:isAlloc ops (at_ ops k) with
  | false=>rfl
  | true=>have:=(Wr (z:=z) ho).1 e;rcases hch with h | h <;> rw [h] at this <;> cases this
 have key: ∀q x,q<ops.size→ops[at_ ops q]? =some x→Un z x→(S (at_ ops q)=true↔q<k):=by
  intro q x hq hx hxc;have nalx:isAlloc ops (at_ ops q)=false:=by
   cases e:isAlloc ops (at_ ops q) with
   | false=>rfl
   | true=>have:=(Wr (z:=z) hx).1 e;rcases hxc with h | h <;> rw [h] at this <;> cases this
  have nok: ∀(x y:Oper),Un z x→Un z y→x3d (Yc z x.op) (Yc z y.op)=false:=by
   intro x y hx hy;rcases hx with h | h <;> rcases hy with h' | h' <;> rw [h,h'] <;> rfl
  constructor
  ·intro hs;rcases Bd q k with h | h | h
   ·exact h
   ·grind
   ·exfalso;have hlt:at_ ops k<at_ ops q:=by
     rcases Qp (ops:=ops) h hq with ⟨h3,_⟩ | ⟨_,h3⟩;all_goals grind
    rcases g.chk.pair _ _ _ _ hlt ho hx with hf | ⟨_,hkd,_⟩
    ·have:=hf S I.closed fun e he hb=>I.closed _ _ hx hs e he hb
     grind
    grind
  ·intro h;have hlt:at_ ops q<at_ ops k:=by
    rcases Qp (ops:=ops) h hk with ⟨h3,_⟩ | ⟨_,h3⟩;all_goals grind
   rcases g.chk.pair _ _ _ _ hlt hx ho with hf | ⟨_,hkd,_⟩
   ·exact hf S I.closed dE
   grind
 refine ⟨?_,key⟩;rcases AV k p with h | h
 ·have:=(I.chain k o hk ho hch).2 h
  grind
 ·exact h
end
end
section
variable {Sp:Specs} {z:Nat} {P:Program} {D:List Deferred} {ops:Array Oper} {cx:Ctx} {st:St} {f:Nat→St}
theorem x7z {ρ ρ':Rho} {floor:Nat} {m m':Mem} {n n':Nat} {w w':World} (h:Rel ρ m n w) (h':Rel ρ' m' n' w') (e:Ev ρ ρ' floor m n m' n' w w') {b:Nat} {ab:ABlk} (hm:Zt m b=some ab) (hb: ∀l,ρ b=some l→Xq ρ w' ab l):
  Rel ρ' (Yr .leaf b (some ab)) n' w':=by
 have hbn:b<n:=by
  rcases AV b n with g | g
  ·exact g
  ·rw [h.bd b g] at hm;cases hm
 have hn:=e.nxt;have hg: ∀c,(Zt (Yr .leaf b (some ab)) c).isSome =true→c=b:=fun c hc=>by
  by_cases hcb:c=b
  ·exact hcb
  ·rw [Zx _ _ hcb] at hc;cases hc
 refine ⟨h'.dom,fun c c' l l' _ _ _ hs hs'=>(hg c hs).trans (hg c' hs').symm,fun c l a hc ha=> ?_,h'.old,fun c l hc hs=> ?_,h'.real,fun c hc=> ?_,h'.ldom⟩
 ·obtain rfl:=hg c (by rw [ha];rfl);rw [Zd] at ha;obtain rfl:=Af ha;rw [e.new c hbn] at hc;have q:=hb l hc;exact q.world e.ext rfl
 ·obtain rfl:=hg c hs;rw [e.new c hbn] at hc;rw [e.still _ (h.real c l hc)];exact h.sep c l hc (by rw [hm];rfl)
 ·rw [Zx _ _ (by omega)];rfl
theorem v1u (g:Reg Sp z P ops cx st f) {ρ0:Rho} {w0:World} (hout: ∀i,cx.n≤i→T.get .undef st.env i=.undef) (hbd: ∀b,st.next≤b→Zt st.mem b=none): ∀(fuel:Nat) (listed:Array Bool) (p:Nat) (ρ:Rho) (a:Act) (w:World),listed.size=ops.size→
  (List.range ops.size).countP (fun i=> !listed.getD i false)=fuel→Inv z P D ops cx st f ρ0 w0 (fun i=>listed.getD i false) p ρ a w→wpAny P .any ops (Fin D ρ0 cx st (f ops.size) w0) fuel listed a w:=by
 have someReady: ∀listed:Array Bool,listed.size=ops.size→ ∀i,i<ops.size→listed.getD i false=false→ ∃j,j∈Region.ready .any ops listed:=by
  intro listed hsz i
  induction i using Nat.strongRecOn with
  | _ i ih=>
   intro hi hl;by_cases h: ∃e∈(ops[i]).after.toList,Region.binds .any e=true∧listed.getD e.on false=false
   ·obtain ⟨e,he,hb,hf⟩:=h;have hlt:=g.chk.ord i ops[i] (by simp [hi]) e he hb
    grind
   ·refine ⟨i,mem_ready.2 ⟨?_,ops[i],by simp [hi],fun e he hb=> ?_⟩⟩;all_goals grind
 intro fuel
 induction fuel with
 | zero=>
  intro listed p ρ a w hsz hcnt I;have dX: ∀i,i<ops.size→listed.getD i false=true:=by simp_all
  refine ⟨?_,rfl,I.defers,ρ,?_,?_,?_⟩
  ·simp_all [Region.ready]
  ·refine ⟨I.tsz,fun t=> ?_,fun i hi=> ?_⟩
   ·by_cases hw: ∃(i:Nat) (x:Oper),ops[i]? =some x∧x.dst=some t
    ·obtain ⟨i,x,hx,hd⟩:=hw;have hil:i<ops.size:=(AC.1 hx).1;obtain ⟨k,hk,rfl⟩:=u2o hil;have hst:(f ops.size).tmp t=(f (k+1)).tmp t:=g.slot_stays (by omega) (Ao _) fun q y h1 h2 hy hyd=>by
      have e:at_ ops k=at_ ops q:=y5w g hx hy hd hyd;rcases Qp (ops:=ops) (k1:=k) (k2:=q) (by omega) h2 with ⟨h3,h4⟩ | ⟨_,h4⟩;all_goals grind
     show Za ρ ((f ops.size).tmp t) _;rw [hst];exact I.done k x t hk hx (dX _ hil) hd
    ·have hst:(f ops.size).tmp t=(f 0).tmp t:=g.slot_stays (AE _) (Ao _) fun q y _ h2 hy hyd=>hw ⟨_,y,hy,hyd⟩;show Za ρ ((f ops.size).tmp t) _;rw [hst,g.f0];exact I.undone t fun i x hx _ hd=>hw ⟨i,x,hx,hd⟩
   ·have hst:(f ops.size).tmp i=(f 0).tmp i:=g.slot_stays (AE _) (Ao _) fun q y _ h2 hy hyd=>by obtain ⟨o,ho,s⟩:=g.step' h2;rw [hy] at ho;obtain rfl:=Af ho;exact absurd hi (Nat.not_le_of_lt (s.slot i hyd))
    show (f ops.size).tmp i=_;rw [hst,g.f0];exact hout i hi
  ·obtain ⟨e1,e2⟩:=g.mem_stays I.ple (Ao _) fun k o h1 h2 ho=>by
    rcases x3e z o with h | h | h | h
    ·exact .inl h
    ·exact .inr h
    ·have:=I.past k o h2 ho h;omega
    ·have:=(I.chain k o h2 ho h).1 (dX _ (v2g h2));omega
   rw [e1,e2];exact I.rel
  ·obtain ⟨e1,e2⟩:=g.mem_stays I.ple (Ao _) fun k o h1 h2 ho=>by
    rcases x3e z o with h | h | h | h
    ·exact .inl h
    ·exact .inr h
    ·have:=I.past k o h2 ho h;omega
    ·have:=(I.chain k o h2 ho h).1 (dX _ (v2g h2));omega
   rw [e1,e2];exact I.ev
 | succ fuel ih=>
  intro listed p ρ a w hsz hcnt I;refine ⟨fun hr=> ?_,fun i hi=> ?_⟩
  ·exfalso;have: ∃i,i<ops.size∧listed.getD i false=false:=by
    have eV:0<(List.range ops.size).countP (fun i=> !listed.getD i false):=(by omega);obtain ⟨i,hi,h⟩:=List.countP_pos_iff.1 eV
    grind
   grind
  ·obtain ⟨hun,o,ho,hafter⟩:=mem_ready.1 hi;have hil:i<ops.size:=(AC.1 ho).1;obtain ⟨k,hk,rfl⟩:=u2o hil;have hil2:at_ ops k<listed.size:=by omega
   have hns:listed.getD (at_ ops k) false=false:=by grind
   have dE:y6n (fun i=>listed.getD i false) o:=fun e he hb=>hafter e (Array.mem_toList_iff.1 he) hb;have hS: ∀j,(listed.setIfInBounds (at_ ops k) true).getD j false=(listed.getD j false||j == at_ ops k):=by
    intro j;by_cases hj:j=at_ ops k
    ·simp_all
    ·have:(j == at_ ops k)=false:=(by grind);simp [this,Array.getElem?_setIfInBounds_ne (Ne.symm hj)]
   have hcnt':(List.range ops.size).countP (fun i=> !(listed.setIfInBounds (at_ ops k) true).getD i false)=fuel:=by
    have:=z0f (fun i=> !listed.getD i false) (fun i=> !(listed.setIfInBounds (at_ ops k) true).getD i false) (at_ ops k) ops.size (fun j hj=>by
     grind) (by grind) (by rw [hS];simp) hil
    omega
   have eW:(listed.setIfInBounds (at_ ops k) true).size =ops.size:=by grind
   have eK:=I.closes ho dE hS;have undone: ∀{j:Nat},(listed.setIfInBounds (at_ ops k) true).getD j false=false→listed.getD j false=false:=fun {j} h=>by
    grind
   have calms: ∀(k1 q:Nat) (o1 x:Oper),k1<q→q<p→q<ops.size→ops[at_ ops k1]? =some o1→ops[at_ ops q]? =some x→(listed.setIfInBounds (at_ ops k) true).getD (at_ ops k1) false=false→Un z x→Kf z ops (at_ ops k1) (at_ ops q)=true→v2d z o.op=true:=fun k1 q o1 x c1 c2 c3 c4 c5 c6 c7 c8=>by
    have hq:=(I.chain q x c3 c5 c7).2 c2;have h8:=Aw.1 c8 (at_ ops k) (AN.2 hil);rw [ho] at h8;simp only [BB] at h8;rcases h8 with h8 | h8 | h8 | h8
    ·exact h8
    ·simp_all
    ·have:=(g.chk.bits _ _ c5 _ h8).2 _ I.closed fun e he hb=>I.closed _ _ c5 hq e he hb
     grind
    ·have:=(g.chk.bits _ _ ho _ h8).2 _ I.closed dE
     grind
   have notcalm: ∀{α:Prop},Yc z o.op≠ .pure →Yc z o.op≠ .read →v2d z o.op=true→α:=fun h1 h2 h=>by
    grind [v2d]
   obtain ⟨o',ho',s⟩:=g.step' hk;rw [ho] at ho';obtain rfl:=Af ho';have hops:=I.operands g hk ho hns dE;have hguard: ∀d,Wc ops o=some d→Za ρ ((f k).tmp d) (a.tmps.getD d undef):=fun d hd=>I.looks g hk ho hns dE (y5k hd);have hob:=g.ob (k+1) (by omega);have finish: ∀{q:Prop},(if Region.wanted o (yielded ops a.tmps) then o.wp P a w (wpAny P .any ops (Fin D ρ0 cx st (f ops.size) w0) fuel (listed.setIfInBounds (at_ ops k) true)) (Fin D ρ0 cx st (f ops.size) w0) else wpAny P .any ops (Fin D ρ0 cx st (f ops.size) w0) fuel (listed.setIfInBounds (at_ ops k) true) (a.put o.dst undef) w)→
     wpOp P ops (Fin D ρ0 cx st (f ops.size) w0) (at_ ops k) (wpAny P .any ops (Fin D ρ0 cx st (f ops.size) w0) fuel (listed.setIfInBounds (at_ ops k) true)) a w:=by
    grind [wpOp]
   have calm:(Yc z o.op=.pure ∨Yc z o.op=.read)→wpOp P ops (Fin D ρ0 cx st (f ops.size) w0) (at_ ops k) (wpAny P .any ops (Fin D ρ0 cx st (f ops.size) w0) fuel (listed.setIfInBounds (at_ ops k) true)) a w:=by
    intro hkd;obtain ⟨memC,hrelC,hagC⟩: ∃memC,Rel ρ memC (f p).next w∧ ∀t y b ab,o.op=.load t y→x1z o.op (f k).eval =some b→Zt (f k).mem b=some ab→Zt memC b=some ab:=by
     by_cases hl: ∃t y b ab q x,o.op=.load t y∧x1z o.op (f k).eval =some b∧Zt (f k).mem b=some ab∧k≤q∧q<p∧ops[at_ ops q]? =some x∧Un z x∧Kf z ops (at_ ops k) (at_ ops q)=true∧x4w x.op (f q).eval (f q).mem =some b
     ·obtain ⟨t,y,b,ab,q0,x0,hop,hrd,hm,l1,l2,l3,l4,l5,l6⟩:=hl;have fA:Yc z o.op=.read :=by rw [hop];rfl
      obtain ⟨_,b2⟩:=I.between g hk ho hns dE fA hrd;have hbn:b<(f k).next :=by
       rcases AV b (f k).next with h | h
       ·exact h
       ·rw [g.bd hbd (by omega) b h] at hm;cases hm
      have first: ∀n q x,q≤n→k≤q→q<p→ops[at_ ops q]? =some x→Un z x→Kf z ops (at_ ops k) (at_ ops q)=true→x4w x.op (f q).eval (f q).mem =some b→
        ∃q x,k≤q∧q<p∧ops[at_ ops q]? =some x∧Un z x∧Kf z ops (at_ ops k) (at_ ops q)=true∧x4w x.op (f q).eval (f q).mem =some b∧ ∀q' x',k≤q'→q'<q→ops[at_ ops q']? =some x'→ ¬(Un z x'∧Kf z ops (at_ ops k) (at_ ops q')=true∧x4w x'.op (f q').eval (f q').mem =some b):=by
       intro n
       induction n with
       | zero=>grind
       | succ n ih=>
        intro q x h0 h1 h2 h3 h4 h5 h6;by_cases he: ∃q' x',k≤q'∧q'<q∧ops[at_ ops q']? =some x'∧Un z x'∧Kf z ops (at_ ops k) (at_ ops q')=true∧x4w x'.op (f q').eval (f q').mem =some b
        ·obtain ⟨q',x',e1,e2,e3,e4,e5,e6⟩:=he;exact ih q' x' (by omega) e1 (by omega) e3 e4 e5 e6
        ·exact ⟨q,x,h1,h2,h3,h4,h5,h6,fun q' x' e1 e2 e3 e4=>he ⟨q',x',e1,e2,e3,e4⟩⟩
      obtain ⟨q,x,h1,h2,h3,h4,h5,h6,h7⟩:=first q0 q0 x0 (Ao _) l1 l2 l3 l4 l5 l6
      have hple:=I.ple;have hne:k≠q:=fun e=>by
       rw [←e,ho] at h3;obtain rfl:=Af h3;rcases h4 with h | h <;> rw [fA] at h <;> cases h
      have hst:=g.blk_stays (x:=b) (a:=k) (b:=q) h1 (by omega) hbn fun q' x' e1 e2 e3=>by
       rcases b2 q' x' e1 (by omega) e3 with d | d | d | d | d | d;all_goals grind
      refine ⟨_,I.late k q o x b ab (by omega) h2 (by omega) ho h3 hns h4 h5 h6 (by grind),fun t' y' b' ab' hop' hrd' hm'=> ?_⟩
      grind [Zd]
     ·refine ⟨(f p).mem,I.rel,fun t y b ab hop hrd hm=> ?_⟩;have fA:Yc z o.op=.read :=by rw [hop];rfl
      obtain ⟨b1,b2⟩:=I.between g hk ho hns dE fA hrd;have b2: ∀q x,k≤q→q<p→ops[at_ ops q]? =some x→x2g z x∨Yc z x.op=.read ∨(Yc z x.op=.call ∧z1e ops (at_ ops q)=true∧wrC Sp x.op (f q).eval ≠some b)∨(Yc z x.op=.chain ∧y6p x.op (f q).eval ≠some b)∨z5j z x:=fun q x e1 e2 e3=>by
       rcases b2 q x e1 e2 e3 with d | d | d | d | d | d;all_goals grind
      have hρ: ∃l,ρ b=some l:=by
       have:=hops y (by rw [hop];simp [Op.operands]);rw [hop] at hrd;simp only [x1z] at hrd;generalize a.eval y=uy at this;split at hrd
       ·rename_i hy;rw [hy] at this;obtain rfl:=Af hrd;cases this with
        | ptr _ _ l h=>grind
       ·rename_i hy;rw [hy] at this;obtain rfl:=Af hrd;cases this with
        | epa _ _ _ _ l h=>grind
       ·cases hrd
      obtain ⟨l,hl⟩:=hρ;rcases Nat.le_total p k with hpk | hpk
      ·have:=g.blk_stays (x:=b) hpk (by omega) (I.rel.dom b l hl) b1
       grind
      ·have hbn:b<(f k).next :=by
        rcases AV b (f k).next with h | h
        ·exact h
        ·rw [g.bd hbd (by omega) b h] at hm;cases hm
       have:=g.blk_stays (x:=b) hpk I.ple hbn b2
       grind
    refine finish (q:=True) (s.calm hob hkd ρ a w (f k).eval memC (f p).next I.tsz (fun _ _=>rfl) hguard hops hrelC hagC _ _ fun u dK=> ?_)
    ·obtain ⟨d1,d2⟩:=I.slots g hk ho hns (Rho.le_refl ρ) dK hS;refine ih _ p ρ _ w eW hcnt' ⟨eK,by rw [Act.put_defers'];exact I.defers,by cases h:o.dst <;> simp [Act.put,I.tsz],d1,d2,I.ple,I.past,fun q x hq hx hc=> ?_,I.rel,I.ev,fun k1 q o1 x b ab c1 c2 c3 c4 c5 c6=>I.late k1 q o1 x b ab c1 c2 c3 c4 c5 (undone c6),fun q x hq hx hnw hs=> ?_⟩
     ·have hne:at_ ops q≠at_ ops k:=fun e=>by
       rw [e,ho] at hx;obtain rfl:=Af hx;rcases hc with h | h <;> rcases hkd with h' | h' <;> rw [h] at h' <;> cases h'
      rw [hS]
      simpa [hne] using I.chain q x hq hx hc
     ·rw [hS] at hs;simp only [AT] at hs;exact I.allocs q x hq hx hnw hs.1
   rcases x3e z o with (hkd | hkd) | hkd | hkd | hkd
   ·grind
   ·-- a slice that is written out, as data
    refine finish (q:=True) (s.lit hob hkd ρ a w (f k).eval (f p).mem (f p).next I.tsz (fun _ _=>rfl) hguard hops I.rel _ _ fun ρ' u w' dK dP dG hev=> ?_);obtain ⟨d1,d2⟩:=I.slots g hk ho hns (hev cx.floor (f p).mem).ext dK hS;refine ih _ p ρ' _ w' eW hcnt' ⟨eK,by rw [Act.put_defers'];exact I.defers,by cases h:o.dst <;> simp [Act.put,I.tsz],d1,d2,I.ple,I.past,fun q x hq hx hc=> ?_,dP,I.ev.trans (hev _ _),fun k1 q o1 x b ab c1 c2 c3 c4 c5 c6 c7 c8=>notcalm (by grind) (by grind) (calms k1 q o1 x c1 c2 c3 c4 c5 c6 c7 c8),fun q x hq hx hnw hs=> ?_⟩
    ·have hne:at_ ops q≠at_ ops k:=fun e=>by
      rw [e,ho] at hx;obtain rfl:=Af hx;rcases hc with h | h <;> rw [h] at hkd <;> cases hkd
     rw [hS]
     simpa [hne] using I.chain q x hq hx hc
    ·rw [hS] at hs;simp only [AT] at hs;obtain ⟨m1,m2,m3,m4⟩:=I.allocs q x hq hx hnw hs.1
     grind
   ·grind
   ·-- a block is made
    have hgn:=g.chk.guard _ o ho hkd;obtain ⟨cells,ty,hm1,hn1,hborn⟩:=s.fresh hob hkd hgn;obtain ⟨l1,l2,l3,l4⟩:=I.allocs k o hk ho hkd hns;rw [hm1,Zd] at l4;obtain ⟨u,vs,el,hel,hvs,cX,dK⟩:=hborn ρ a w (f k).eval (fun _ _=>rfl) hops;have dP:=I.rel.birth l2 l3 l4 el hvs hel;refine finish (q:=True) ?_;rw [AD (by unfold Region.wanted;rw [hgn])];unfold Oper.wp;rw [cX];have hle:ρ.le (Xs ρ (f k).next ⟨w.heap.size,0,cells.length,vs.size⟩):=Uc l3;obtain ⟨d1,d2⟩:=I.slots g hk ho hns hle (u:=u) (fun d hd=>dK _ (by simp [Xs]) d hd) hS;have ev':Ev ρ0 (Xs ρ (f k).next ⟨w.heap.size,0,cells.length,vs.size⟩) cx.floor st.mem st.next (f p).mem (f p).next w0 {w with heap:=w.heap.push (.cells vs el)}:=by
     have e:=I.ev;refine ⟨Rho.le_trans e.ext hle,fun b hb=> ?_,e.nxt,e.unborn,fun q ob hq hf=> ?_,fun b l hb hl=> ?_,?_,e.os,e.tape,e.output,e.still⟩
     ·rw [←e.new b hb];rw [Ww,Ax (by omega)]
     ·have:=e.frame q ob hq hf
      grind
     ·rw [Ww] at hl;by_cases hbk:b=(f k).next
      ·rw [AD hbk] at hl;obtain rfl:=Af hl;exact .inl e.size
      ·rw [Ax hbk] at hl;exact e.fresh b l hb hl
     ·have:=e.size;simp;omega
    refine ih _ p _ _ _ eW hcnt' ⟨eK,by rw [Act.put_defers'];exact I.defers,by cases h:o.dst <;> simp [Act.put,I.tsz],d1,d2,I.ple,I.past,fun q x hq hx hc=> ?_,dP,ev',fun k1 q o1 x b ab c1 c2 c3 c4 c5 c6 c7 c8=>notcalm (by rcases hkd with h | h <;> rw [h] <;> exact fun h=>by cases h) (by rcases hkd with h | h <;> rw [h] <;> exact fun h=>by cases h) (calms k1 q o1 x c1 c2 c3 c4 c5 c6 c7 c8),fun q x hq hx hnw hs=> ?_⟩
    ·have hne:at_ ops q≠at_ ops k:=fun e=>by
      rw [e,ho] at hx;obtain rfl:=Af hx;rcases hc with h | h <;> rcases hkd with h' | h' <;> rw [h] at h' <;> cases h'
     rw [hS]
     simpa [hne] using I.chain q x hq hx hc
    ·rw [hS] at hs;simp only [AT] at hs;obtain ⟨m1,m2,m3,m4⟩:=I.allocs q x hq hx hnw hs.1;refine ⟨m1,m2,?_,m4⟩;have hne:(f q).next ≠(f k).next :=by
      have hqk:q≠k:=fun e=>by grind
      have up: ∀q x,q<ops.size→ops[at_ ops q]? =some x→z5j z x→(f (q+1)).next =(f q).next +1:=by intro q x hq hx hn;obtain ⟨x',hx',s'⟩:=g.step' hq;rw [hx] at hx';obtain rfl:=Af hx';obtain ⟨_,_,_,h6,_⟩:=s'.fresh (g.ob _ (by omega)) hn (g.chk.guard _ x hx hn);exact h6
      rcases Bd q k with h | h | h
      ·have h1:=up q x hq hx hnw;have h2:=g.next_le (a:=q+1) (b:=k) (by omega) (by omega);omega
      ·grind
      ·have h1:=up k o hk ho hkd;have h2:=g.next_le (a:=k+1) (b:=q) (by omega) (by omega);omega
     grind [Ww]
   ·-- the next one that may write
    obtain ⟨hpk,hch⟩:=I.next_chain g hk ho hns dE hkd;obtain ⟨e1,e2⟩:=g.mem_stays hpk (by omega) fun q x h1 h2 hx=>by
     rcases x3e z x with h | h | h | h
     ·exact .inl h
     ·exact .inr h
     ·have:=I.past q x (by omega) hx h;omega
     ·have:=(I.chain q x (by omega) hx h).1 ((hch q x (by omega) hx h).2 h2);omega
    have cV:Rel ρ (f k).mem (f k).next w:=by rw [e1,e2];exact I.rel
    refine finish (q:=True) (s.does hob hkd ρ a w (f k).eval I.tsz (fun _ _=>rfl) hguard hops cV _ _ fun ρ' u w' dK dP hev hlate=> ?_);obtain ⟨d1,d2⟩:=I.slots g hk ho hns hev.ext dK hS;have hev0:=hev;rw [e1,e2] at hev;refine ih _ (k+1) ρ' _ w' eW hcnt' ⟨eK,by rw [Act.put_defers'];exact I.defers,by cases h:o.dst <;> simp [Act.put,I.tsz],d1,d2,by omega,fun q x hq hx hc=>by have:=I.past q x hq hx hc;omega,fun q x hq hx hc=> ?_,dP,I.ev.trans hev,fun k1 q o1 x b ab c1 c2 c3 c4 c5 c6 c7 c8 c9 c10=> ?late,fun q x hq hx hnw hs=> ?_⟩
    case late=>
     by_cases hqk:q=k
     ·subst hqk;rw [ho] at c5;obtain rfl:=Af c5;exact x7z cV dP hev0 c10 fun l hl=>hlate b ab l c9 c10 hl
     ·have hqs:=(hch q x c3 c5 c7).2 (by omega);have hqp:=(I.chain q x c3 c5 c7).1 hqs;exact notcalm (by rcases hkd with h | h <;> rw [h] <;> exact fun h=>by cases h) (by rcases hkd with h | h <;> rw [h] <;> exact fun h=>by cases h) (calms k1 q o1 x c1 hqp c3 c4 c5 c6 c7 c8)
    ·rw [hS];by_cases hqk:q=k
     ·grind
     ·have hne:at_ ops q≠at_ ops k:=fun e=>by
       rcases AV q k with h | h
       ·grind
       ·rcases Qp (ops:=ops) (k1:=k) (k2:=q) (by omega) hq with ⟨h3,h4⟩ | ⟨_,h4⟩;all_goals grind
      have:=hch q x hq hx hc;simp only [beq_eq_false_iff_ne.2 hne,Bool.or_false];rw [this];omega
    ·rw [hS] at hs;simp only [AT] at hs;obtain ⟨m1,m2,m3,m4⟩:=I.allocs q x hq hx hnw hs.1;obtain ⟨x',hx',s'⟩:=g.step' hq;rw [hx] at hx';obtain rfl:=Af hx';obtain ⟨cells,ty,hm1,_,_⟩:=s'.fresh (g.ob _ (by omega)) hnw (g.chk.guard _ x hx hnw);have e0:Zt (f (q+1)).mem (f q).next =some ⟨cells,ty,none⟩:=by rw [hm1,Zd]
     rw [e0] at m4;refine ⟨m1,AP m2 hev.nxt,by rw [hev.new _ m2];exact m3,by rw [e0];exact hev.unborn _ m2 m3 _ _ m4⟩
theorem w5f (g:Reg Sp z P ops cx st f) {ρ:Rho} {a:Act} {w:World} (hd:a.defers=D) (cZ:Xb ρ st.env cx.n a.tmps) (cV:Rel ρ st.mem st.next w):
  ∃p,Inv z P D ops cx st f ρ w (fun i=>(Array.replicate ops.size false).getD i false) p ρ a w:=by
 have hf: ∀i,(Array.replicate ops.size false).getD i false=false:=fun i=>by
  by_cases h:i<ops.size;all_goals simp_all
 have hA: ∃p,p≤ops.size∧(∀k o,k<ops.size→ops[at_ ops k]? =some o→z5j z o→k<p)∧(p=0∨ ∃o,ops[at_ ops (p - 1)]? =some o∧z5j z o):=by
  have: ∀n,n≤ops.size→ ∃p,p≤n∧(∀k o,k<n→ops[at_ ops k]? =some o→z5j z o→k<p)∧(p=0∨ ∃o,ops[at_ ops (p - 1)]? =some o∧z5j z o):=by
   intro n
   induction n with
   | zero=>grind
   | succ n ih=>
    intro hn;obtain ⟨p,hp,hk,hlast⟩:=ih (by omega);have hlt:=v2g (ops:=ops) (k:=n) (by omega);have hx:ops[at_ ops n]? =some ops[at_ ops n]:=(by simp [hlt]);by_cases e:z5j z ops[at_ ops n]
    ·exact ⟨n+1,Ao _,fun k o h _ _=>h,.inr ⟨_,hx,e⟩⟩
    ·refine ⟨p,by omega,fun k o h ho hnw=> ?_,hlast⟩;by_cases hkn:k=n
     ·grind
     ·exact hk k o (by omega) ho hnw
  simp_all
 obtain ⟨p,hp,hpk,hlast⟩:=hA;have noch: ∀k o,k<p→ops[at_ ops k]? =some o→ ¬Un z o:=by
  intro k o hk ho hc;rcases hlast with h0 | ⟨x,hx,hnw⟩
  ·omega
  ·by_cases hkp:k=p - 1
   ·rw [←hkp,ho] at hx;obtain rfl:=Af hx;rcases hc with h | h <;> rcases hnw with h' | h' <;> rw [h] at h' <;> cases h'
   ·have nal:isAlloc ops (at_ ops k)=false:=by
     cases e:isAlloc ops (at_ ops k) with
     | false=>rfl
     | true=>
      have:=(Wr (z:=z) ho).1 e;rcases hc with h | h <;> rw [h] at this <;> cases this
    rcases Qp (ops:=ops) (k1:=k) (k2:=p - 1) (by omega) (by omega) with ⟨h3,_⟩ | ⟨h3,h4⟩
    ·grind
    ·rw [nal] at h3;rcases hnw with hnw | hnw
     ·grind [Wr]
     ·exact g.chk.birth _ _ _ _ h4 ho hx hnw hc
 have stepAt: ∀k,k<p→((f (k+1)).mem =(f k).mem ∧(f (k+1)).next =(f k).next)∨ ∃cells ty,(f (k+1)).mem =Yr (f k).mem (f k).next (some ⟨cells,ty,none⟩)∧(f (k+1)).next =(f k).next +1:=by
  intro k hk;obtain ⟨o,ho,s⟩:=g.step' (k:=k) (by omega);rcases x3e z o with h | h | h | h
  ·exact .inl (s.stay (by rcases h with h | h <;> simp [h]))
  ·exact .inl (s.stay (.inr (.inl h)))
  ·obtain ⟨cells,ty,h1,h2,_⟩:=s.fresh (g.ob _ (by omega)) h (g.chk.guard _ o ho h)
   grind
  grind
 have start: ∀k,k≤p→Rel ρ (f k).mem (f k).next w∧Ev ρ ρ cx.floor st.mem st.next (f k).mem (f k).next w w:=by
  intro k
  induction k with
  | zero=>intro _;rw [g.f0];exact ⟨cV,Ev.refl _ _ _ _ _ cV.dom⟩
  | succ k ih=>
   intro hk;obtain ⟨hr,he⟩:=ih (by omega);rcases stepAt k (by omega) with ⟨h3,h4⟩ | ⟨cells,ty,h3,h4⟩
   ·grind
   ·rw [h3,h4];refine ⟨hr.unborn _,he.trans ⟨Rho.le_refl _,fun _ _=>rfl,BO _,fun b hb _ cs ty hm=>by grind [Zx],fun _ _ h _=>h,fun b l hb hl=>by have:=hr.dom b l hl;omega,Ao _,rfl,rfl,rfl,fun _ _=>rfl⟩⟩
 have later: ∀k k',(f (k+1)).next =(f k).next +1→k<k'→k'≤p→(f k).next <(f k').next ∧Zt (f k').mem (f k).next =Zt (f (k+1)).mem (f k).next :=by
  intro k k' hk1 hk
  induction k' with
  | zero=>omega
  | succ k' ih=>
   intro hk';by_cases e:k=k'
   ·grind
   ·obtain ⟨h1,h2⟩:=ih (by omega) (by omega);rcases stepAt k' (by omega) with ⟨h3,h4⟩ | ⟨cells,ty,h3,h4⟩;all_goals grind [Zx]
 obtain ⟨hrp,hep⟩:=start p (Ao _);refine ⟨p,?_,hd,cZ.size,?_,?_,hp,hpk,?_,hrp,hep,fun k q o x b ab _ hqp _ _ hx _ hc=>absurd hc (noch q x hqp hx),?_⟩
 ·intro j o _ hs;grind
 ·grind
 ·intro t _;exact cZ.get t
 ·grind
 ·intro k o hk ho hnw _;have hkp:k<p:=hpk k o hk ho hnw;obtain ⟨o',ho',s⟩:=g.step' (k:=k) hk;rw [ho] at ho';obtain rfl:=Af ho';obtain ⟨cells,ty,h3,h4,_⟩:=s.fresh (g.ob _ (by omega)) hnw (g.chk.guard _ o ho hnw);obtain ⟨h5,h6⟩:=later k p h4 hkp (Ao _);have hge:st.next≤(f k).next :=by have:=g.next_le (a:=0) (b:=k) (AE _) (by omega);rw [g.f0] at this;exact this
  refine ⟨hge,h5,?_,h6⟩;cases e:ρ (f k).next with
  | none=>rfl
  | some l=>have:=cV.dom _ l e;omega
theorem z5d {S:Specs} {R:Runner} (hN:z2c P) (hS:Zw P S) (hRI:x7k R) (hR:ROk P R) {st':St} (hcx:cx.floor≤st.next) (dQ:y1c z ops=true)
  (h:z6m z P S R ops cx (Kp ops) [] st=some st') (ho:st'.ob=true) {ρ:Rho} {a:Act} {w:World} (hd:a.defers=D) (cZ:Xb ρ st.env cx.n a.tmps) (cV:Rel ρ st.mem st.next w):
  wpAny P .any ops (Fin D ρ cx st st' w) ops.size (Array.replicate ops.size false) a w:=by
 obtain ⟨f,f0,fn,fs,_,fp⟩:=Qo (Kp ops) [] st st' h;have cW:(Kp ops).length =ops.size:=by simp [Kp,Yf]
 rw [cW] at fn;have dV: ∀(k:Nat) (hk:k<(Zi ops).length),cx.floor≤(f k).next →v2l S z P ops cx (z1e ops (Zi ops)[k],ops.getD (Zi ops)[k] default) (f k) (f (k+1)):=by
  grind [Kp,x7t]
 have hnx: ∀k,k≤ops.size→cx.floor≤(f k).next :=by
  intro k
  induction k with
  | zero=>grind
  | succ k ih=>intro hk;have hc:=ih (by omega);exact AG hc (dV k (by rw [Yf];omega) hc).inv.nxt
 have hob: ∀k,k≤ops.size→(f (ops.size - k)).ob =true:=by
  intro k
  induction k with
  | zero=>grind
  | succ k ih=>
   intro hk;have hk':ops.size - (k+1)<(Zi ops).length :=by rw [Yf];omega
   have s:=dV _ hk' (hnx _ (by omega));refine s.inv.ob ?_
   grind
 have g:Reg S z P ops cx st f:=⟨z3p dQ,f0,hcx,fun k hk=>by
  have:=hob (ops.size - k) (by omega);rwa [show ops.size - (ops.size - k)=k by omega] at this,fun k hk=>dV k hk (hnx k (by rw [Yf] at hk;omega)),fun q k hq hk=>by
   have:=fp q k hq (by grind [Yf]);simp_all [Kp]⟩
 obtain ⟨p,I⟩:=w5f g hd cZ cV;have:=v1u g cZ.out cV.bd ops.size (Array.replicate ops.size false) p ρ a w (by simp) (by
  rw [List.countP_eq_length.2];all_goals simp_all) I
 grind
theorem y3c {S:Specs} {R:Runner} (hRI:x7k R): ∀(l:List (Bool×Oper)) (st st':St),x6f P S R ops cx l st=some st'→Yb cx.floor st st'
 | [],st,st',h=>by
  have h:some st=some st':=h
  grind [Yb.refl]
 | x::l,st,st',h=>by
  rw [y0a,Option.bind_eq_some_iff] at h;obtain ⟨st1,h1,h2⟩:=h;refine Yb.trans ?_ (y3c hRI l st1 st' h2);unfold y4j at h1;split at h1
  ·cases h1
  ·rename_i st2 hw;obtain ⟨w1,w2,w3⟩:=Xx hw;refine (Yb.same w1 w2 fun h=>(w3 h).1).trans ?_;unfold y0c at h1;split at h1
   ·split at h1
    ·rename_i st3 ho;obtain ⟨_,e2,e3,e4⟩:=Ys ho;obtain ⟨p1,p2,p3,_⟩:=Xa h1;exact (Yb.same e2 e3 fun h=>(e4 h).2).trans (Yb.same p1 p2 fun h=>by rw [←p3];exact h)
    ·cases h1
   ·split at h1
    ·rename_i v st3 he;obtain ⟨p1,p2,p3,_⟩:=Xa h1;exact (y1s hRI he).1.trans (Yb.same p1 p2 fun h=>by rw [←p3];exact h)
    ·cases h1
  ·rename_i st2 hw;obtain ⟨w1,w2,w3⟩:=Xx hw;obtain ⟨p1,p2,p3,_⟩:=Xa h1;exact (Yb.same w1 w2 fun h=>(w3 h).1).trans (Yb.same p1 p2 fun h=>by rw [←p3];exact h)
theorem w2o {S:Specs} {R:Runner} (hRI:x7k R) {x:Bool×Oper} {st st':St} (h:x0e z P S R ops cx x st=some st'):Yb cx.floor st st':=by
 unfold x0e at h;cases hz:x3m z x.2.op with
 | false=>
  rw [hz,Ad] at h;cases hz2:isBirth z x.2.op with
  | true=>
   rw [hz2,Ag] at h;split at h
   ·cases h
   ·rename_i st2 hw;obtain ⟨w1,w2,w3⟩:=Xx hw;unfold y1j at h;split at h
    ·split at h
     ·obtain ⟨p1,p2,p3,_⟩:=Xa h;exact ((Yb.same w1 w2 fun h=>(w3 h).1).trans (Yb.new _ _ _)).trans (Yb.same p1 p2 fun h=>by grind)
     ·cases h
    ·cases h
   ·rename_i st2 hw;obtain ⟨w1,w2,w3⟩:=Xx hw
    grind [Xa,Yb.same]
  | false=>rw [hz2,Ad] at h;exact y3c hRI [x] st st' (by rw [y0a,h];rfl)
 | true=>
  rw [hz,Ag] at h;split at h
  ·cases h
  ·rename_i st2 hw;obtain ⟨w1,w2,w3⟩:=Xx hw
   grind [x2x,Xa,Yb.same]
  ·rename_i st2 hw;obtain ⟨w1,w2,w3⟩:=Xx hw
   grind [Xa,Yb.same]
theorem y0b {S:Specs} {R:Runner} (hRI:x7k R) (l:List (Nat×Bool×Oper)) (acc:List Foot) (st st':St) (h:z6m z P S R ops cx l acc st=some st'):Yb cx.floor st st':=by
 obtain ⟨f,f0,fn,fs,_,_⟩:=Qo l acc st st' h;have: ∀k,k≤l.length→Yb cx.floor st (f k):=by
  intro k
  induction k with
  | zero=>intro _;rw [f0];exact Yb.refl _ _
  | succ k ih=>
   intro hk;refine (ih (by omega)).trans ?_
   grind [w2o]
 grind
end
section
variable {P:Program}
theorem y7r {H:Old} {w:World} (hH: ∀k o,H k=some o→w.heap[k]? =some o) (hG:v5z H):Rel (Jy H) .leaf 0 w:=
 ⟨(fun b l h=>by cases h),(fun b b' l l' h=>by cases h),(fun b l ab h=>by cases h),hH,(fun b l h=>by cases h),(fun b l h=>by cases h),(fun b _=>rfl),(fun j l h=>by cases h),hG⟩
structure Out (H:Old) (w:World) (ρ:Rho) (v:AVal) (u:Value) (w':World):Prop where
 val:Za ρ v u
 le: ∀k o,H k=some o→ρ.fz k=some o
 old: ∀k o,ρ.fz k=some o→w'.heap[k]? =some o
 same: ∀k,k<w.heap.size→ρ.fz k=H k
 below:RowKit.Below w.heap.size w w'
theorem out_of {H:Old} {w w':World} {ρ:Rho} {v:AVal} {u:Value} {mem:Mem} {next floor:Nat} (hv:Za ρ v u) (hr:Rel ρ mem next w') (hev:Ev (Jy H) ρ floor .leaf 0 mem next w w'):Out H w ρ v u w':=
 ⟨hv,hev.ext.2.1,hr.old,hev.still,hev.os,hev.tape,hev.output,hev.size,fun k hk=>by
  have:w.heap[k]? =some w.heap[k]:=by simp [hk]
  rw [this];exact hev.frame k _ this fun b l hl=>by cases hl⟩
def noSpecs :Specs:=fun _=>none
theorem Zu :Zw P noSpecs:=fun f F h=>by cases h
end
end Go.Am
end
