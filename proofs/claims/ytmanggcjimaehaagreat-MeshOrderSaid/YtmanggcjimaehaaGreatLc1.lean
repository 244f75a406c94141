/- A part of a proof: several texts in one. -/
import Derived.Test.YtmanggcjimaehaaGreatLc0
import Derived.IntWalk
set_option maxRecDepth 1000000
set_option maxHeartbeats 8000000
set_option linter.unusedVariables false
set_option linter.unusedSimpArgs false
noncomputable section
namespace Go.Am
section
variable {P:Program} {ρ:Rho}
theorem z6d {t u e:TypeId} {ut:TypeDesc} {i:TypeInfo} {type:TypeId} (hu:P.underlying t=some (.slice e)) (hut:P.underlying u=some ut) (hni: ∀k,ut≠ .int k) (hi:P.info? e=some i) {ts:List TypeId} {base:Option Addr} {len n c:Nat} {x:Value} {vs:Array Value} {xs:List Value} {w:World}
  (cW:(Builtin.lenOf x).run P w=.ok n w) (dO:(Builtin.firstCells i.size n x).run P w=.ok vs w) (dC:len+n≤c) {w':World}
  (hst: ∀a,base=some a→(storeCells (a.add (len*i.size)) vs.toList).run P w=.ok () w') (hno:base=none→w'=w):
  (Builtin.append_ (t::u::ts).toArray type ((.slice base len c)::x::xs).toArray).run P w=.ok (.slice base (len+n) c) w':=by
 cases base with
 | none=>obtain rfl:=hno rfl;simp [Builtin.append_,run_underlying hu,run_underlying hut,Zn hi,cW,dO,dC]
 | some a=>have:=hst a rfl;simp [Builtin.append_,run_underlying hu,run_underlying hut,Zn hi,cW,dO,dC,this]
theorem z4s {t u e:TypeId} {ut:TypeDesc} {i:TypeInfo} {type:TypeId} (hu:P.underlying t=some (.slice e)) (hut:P.underlying u=some ut) (hni: ∀k,ut≠ .int k) (hi:P.info? e=some i) {z:Value} (hz:i.zero=some z) {ts:List TypeId} {base:Option Addr} {len n c:Nat} {x:Value} {vs old:Array Value} {xs:List Value} {w:World}
  (cW:(Builtin.lenOf x).run P w=.ok n w) (dO:(Builtin.firstCells i.size n x).run P w.drew=.ok vs w.drew) (hold:(Builtin.firstCells i.size len (.slice base len c)).run P w.drew=.ok old w.drew)
  (dC:c<len+n) (eB:(len+n+1)*(i.bytes+1)≤1099511627776):
  ∃newCap,len+n≤newCap∧ ∃rest:Array Value,rest.size=(newCap - (len+n))*z.cells.size∧
  (Builtin.append_ (t::u::ts).toArray type ((.slice base len c)::x::xs).toArray).run P w=.ok (.slice (some ⟨w.heap.size,0,none⟩) (len+n) newCap) (w.drew.alloc (.cells (old++vs++rest) e)):=by
 have fE:len+n+1≤(len+n+1)*(i.bytes+1):=Nat.le_mul_of_pos_right _ (by omega);have hr:=w6r eB dC;have hr': ¬2 ^ 48<Builtin.nextslicecap (len+n) c*i.bytes:=hr;have hr'': ¬281474976710656<Builtin.nextslicecap (len+n) c*i.bytes:=hr;have h1: ¬len+n≤c:=by omega
 have h2: ¬(9223372036854775807<(len:Int)+(n:Int)):=by omega
 have hq:(Question.appendCap (len+n) c e).forced =false:=rfl;have hzero: ∀w,(zeroValue e).run P w=.ok z w:=fun w=>by simp [zeroValue,run_typeInfo w hi,hz]
 refine ⟨(Question.appendCap (len+n) c e).cut (w.tape w.drawn (Question.appendCap (len+n) c e)),by simp only [Question.cut];omega,Builtin.zeroCells z.cells ((Question.appendCap (len+n) c e).cut (w.tape w.drawn (Question.appendCap (len+n) c e)) - (len+n)),by simp [Builtin.zeroCells],?_⟩;have hty: ∀w,(typeInfo e).run P w=.ok i w:=fun w=>run_typeInfo w hi;simp [Builtin.append_,run_underlying hu,run_underlying hut,Zn hi,cW,h1,h2,hty,hr'',hq,dO,hold,hzero,newRow]
theorem Vk.append {a b:List AVal} {us vs:Array Value} (h:Vk ρ a us) (k:Vk ρ b vs):Vk ρ (a++b) (us++vs):=by
 refine ⟨by simp [h.1,k.1],fun i h1 h2=> ?_⟩;by_cases hi:i<a.length
 ·rw [List.getElem_append_left hi,Array.getElem_append_left (by rw [←h.1];exact hi)];exact h.2 i hi (by rw [←h.1];exact hi)
 ·rw [List.getElem_append_right (by omega),Array.getElem_append_right (by rw [←h.1];omega)];have e:=h.1;simp only [e];exact k.2 (i - us.size) (by simp at h1;omega) (by simp at h2;omega)
theorem z4f {st:St} {w:World} (h:Rel ρ st.mem st.next w) (floor:Nat) {cs:List AVal} {vs:Array Value} (hr:Vk ρ cs vs) (rest:Array Value) (ty el:TypeId) (v:AVal) (u:Value)
  (dI: ∀ρ',ρ' st.next=some ⟨w.heap.size,0,cs.length,vs.size+rest.size⟩→Yy ρ' v u):
  x0p ρ floor st (z8w st cs ty) v w (Vd ρ st.next ⟨w.heap.size,0,cs.length,vs.size+rest.size⟩) u (w.drew.alloc (.cells (vs++rest) el)):=by
 have hd:Rel ρ st.mem st.next w.drew:=h.drawn _
 have:=z4e hd floor cs ty (vs++rest) el (by rw [hr.1];simp) (fun i h1 h2=>by
  rw [Array.getElem_append_left (by rw [←hr.1];exact h1)];exact hr.2 i h1 (by rw [←hr.1];exact h1)) v u (fun ρ' hρ'=>dI ρ' (by simpa using hρ'))
 simp only [Array.size_append] at this;exact ⟨this.val,this.rel,this.ev.drawn⟩
theorem Qy {α:Type} {c:Bool} {x:Option α} {y:α} (h:(bif c then x else none)=some y):c=true∧x=some y:=by
 cases c with
 | false=>cases h
 | true=>exact ⟨rfl,h⟩
structure v6x (P:Program) (ρ:Rho) (t u e:TypeId) (i:TypeInfo) (z:Value) (ux:Value) (n:Nat) (new:List AVal) (vs:Array Value) (w:World):Prop where
 rel:Vk ρ new vs
 hin: ∀{type:TypeId} {ts:List TypeId} {base:Option Addr} {len c:Nat} {xs:List Value},(n=0∨(n+1)*(i.bytes+1)≤1099511627776)→len+n≤c→ ∀{w':World},(∀a,base=some a→(storeCells (a.add (len*i.size)) vs.toList).run P w=.ok () w')→(base=none→w'=w)→
  (Builtin.append_ (t::u::ts).toArray type ((.slice base len c)::ux::xs).toArray).run P w=.ok (.slice base (len+n) c) w'
 hnew: ∀{type:TypeId} {ts:List TypeId} {base:Option Addr} {len c:Nat} {xs:List Value} {old:Array Value},(Builtin.firstCells i.size len (.slice base len c)).run P w.drew=.ok old w.drew→c<len+n→(len+n+1)*(i.bytes+1)≤1099511627776→
  ∃newCap,len+n≤newCap∧ ∃rest:Array Value,rest.size=(newCap - (len+n))*z.cells.size∧
   (Builtin.append_ (t::u::ts).toArray type ((.slice base len c)::ux::xs).toArray).run P w=.ok (.slice (some ⟨w.heap.size,0,none⟩) (len+n) newCap) (w.drew.alloc (.cells (old++vs++rest) e))
theorem y5u {n:Int} {bytes:Nat} (h0:0≤n) (h:n.toNat=0∨(n.toNat+1)*(bytes+1)≤1099511627776):IntKind.i64.wrap n=n∧n*(bytes:Int)≤281474976710656:=by
 rcases h with h | h
 ·obtain rfl:n=0:=by omega
  exact ⟨rfl,by omega⟩
 ·have h1:n.toNat+1≤(n.toNat+1)*(bytes+1):=Nat.le_mul_of_pos_right _ (by omega);have h2:n.toNat*bytes≤(n.toNat+1)*(bytes+1):=Nat.mul_le_mul (by omega) (by omega);refine ⟨IntWalk.i64_in _ (by omega),?_⟩;have h3:((n.toNat*bytes:Nat):Int)≤1099511627776:=by omega
  rw [Int.natCast_mul,Int.toNat_of_nonneg h0] at h3;omega
theorem Jz {mem:Mem} {next:Nat} {w:World} (h:Rel ρ mem next w) {t u e:TypeId} {ut:TypeDesc} {i:TypeInfo} {z:Value} {zero:List AVal} {x:AVal} {ux:Value} {n:Nat} {new:List AVal} (hu:P.underlying t=some (.slice e)) (hut:P.underlying u=some ut) (hi:P.info? e=some i) (hz:i.zero=some z)
  (hzr:Vk ρ zero z.cells) (hzl:zero.length=i.size) (hc:Vs mem i.size zero ut x=some (n,new)) (hx:Yy ρ x ux) (hnl:new.length=n*i.size): ∃vs,v6x P ρ t u e i z ux n new vs w:=by
 unfold Vs at hc;split at hc
 ·rename_i kt;split at hc
  ·rename_i k m;obtain ⟨h0,hc⟩:=Qy hc;have h0:=of_decide_eq_true h0;simp only [Option.some.injEq,Prod.mk.injEq] at hc;obtain ⟨rfl,rfl⟩:=hc;cases hx;have hzs:z.cells.size=i.size:=by rw [←hzr.1];exact hzl
   refine ⟨Builtin.zeroCells z.cells m.toNat,?_,?_,?_⟩
   ·exact z8c hzr m.toNat (m.toNat*z.cells.size) (by rw [hzr.1])
   ·intro type ts base len c xs hr dC w' hst hno;obtain ⟨hw,hb⟩:=y5u h0 hr;have hb': ¬281474976710656<m*(i.bytes:Int):=(by omega);have hlt: ¬m<0:=(by omega);have hzv: ∀w,(zeroValue e).run P w=.ok z w:=fun w=>by simp [zeroValue,run_typeInfo w hi,hz]
    have hty: ∀w,(typeInfo e).run P w=.ok i w:=fun w=>run_typeInfo w hi;by_cases hz0:m.toNat*i.size=0
    ·have hze:Builtin.zeroCells z.cells m.toNat= #[]:=(by simp [Builtin.zeroCells,hzs,hz0]);rw [hze] at hst;cases base with
     | none=>obtain rfl:=hno rfl;simp [Builtin.append_,run_underlying hu,run_underlying hut,Zn hi,asInt,asIntOf,hw,hlt,hty,hb',dC,hz0]
     | some a=>have:=hst a rfl;simp only [] at this;simp [Builtin.append_,run_underlying hu,run_underlying hut,Zn hi,asInt,asIntOf,hw,hlt,hty,hb',dC,hz0,this]
    ·cases base with
     | none=>obtain rfl:=hno rfl;simp [Builtin.append_,run_underlying hu,run_underlying hut,Zn hi,asInt,asIntOf,hw,hlt,hty,hb',dC,hz0,hzv]
     | some a=>have:=hst a rfl;simp [Builtin.append_,run_underlying hu,run_underlying hut,Zn hi,asInt,asIntOf,hw,hlt,hty,hb',dC,hz0,hzv,this]
   ·intro type ts base len c xs old hold dC eB;have hr:m.toNat=0∨(m.toNat+1)*(i.bytes+1)≤1099511627776:=.inr (Nat.le_trans (Nat.mul_le_mul_right _ (by omega)) eB);obtain ⟨hw,hb⟩:=y5u h0 hr;have hb': ¬281474976710656<m*(i.bytes:Int):=(by omega);have hlt: ¬m<0:=(by omega);have fE:len+m.toNat+1≤(len+m.toNat+1)*(i.bytes+1):=Nat.le_mul_of_pos_right _ (by omega);have hr0:=w6r eB dC;have hr'': ¬281474976710656<Builtin.nextslicecap (len+m.toNat) c*i.bytes:=hr0;have h1: ¬len+m.toNat≤c:=(by omega);have h2: ¬(9223372036854775807<(len:Int)+(m.toNat:Int)):=(by omega);have h2': ¬(9223372036854775807<(len:Int)+max m 0):=(by omega);have hq:(Question.appendCap (len+m.toNat) c e).forced =false:=rfl;have hzv: ∀w,(zeroValue e).run P w=.ok z w:=fun w=>by simp [zeroValue,run_typeInfo w hi,hz]
    have hty: ∀w,(typeInfo e).run P w=.ok i w:=fun w=>run_typeInfo w hi;refine ⟨(Question.appendCap (len+m.toNat) c e).cut (w.tape w.drawn (Question.appendCap (len+m.toNat) c e)),by simp only [Question.cut];omega,Builtin.zeroCells z.cells ((Question.appendCap (len+m.toNat) c e).cut (w.tape w.drawn (Question.appendCap (len+m.toNat) c e)) - (len+m.toNat)),by simp [Builtin.zeroCells],?_⟩;by_cases hz0:m.toNat*i.size=0
    ·have hze:Builtin.zeroCells z.cells m.toNat= #[]:=(by simp [Builtin.zeroCells,hzs,hz0]);simp [Builtin.append_,run_underlying hu,run_underlying hut,Zn hi,asInt,asIntOf,hw,hlt,hb',h1,h2,h2',hty,hr'',hq,hold,hzv,newRow,hz0,hze]
    ·simp [Builtin.append_,run_underlying hu,run_underlying hut,Zn hi,asInt,asIntOf,hw,hlt,hb',h1,h2,h2',hty,hr'',hq,hold,hzv,newRow,hz0]
  ·cases hc
 ·rename_i hni';have hni: ∀k,ut≠ .int k:=fun k hk=>hni' k hk;obtain ⟨cW,dO⟩:=Vz (P:=P) h hc hx hnl;obtain ⟨vs,hvs,hfc⟩:=dO n (Nat.le_refl _);rw [List.take_of_length_le (by omega)] at hvs;have eD:(Builtin.firstCells i.size n ux).run P w=.ok vs w:=hfc w.drawn;have hfc1:(Builtin.firstCells i.size n ux).run P w.drew=.ok vs w.drew:=hfc (w.drawn+1);exact ⟨vs,hvs,fun _ dC _ hst hno=>z6d hu hut hni hi (cW w) eD dC hst hno,fun hold dC eB=>z4s hu hut hni hi hz (cW w) hfc1 hold dC eB⟩
theorem x1p {w:World} {x:Obj} {n:Nat} {k:Nat} {o:Obj} (h:w.heap[k]? =some o):(World.alloc {w with drawn:=n} x).heap[k]? =some o:=by have:k<w.heap.size:=(Array.getElem?_eq_some_iff.1 h).1;show (w.heap.push x)[k]? =some o;simp only [Array.getElem?_push,Nat.ne_of_lt this,if_false];exact h
theorem x4h {w:World} {k:Nat} {cur:Array Value} {el:TypeId} {vs:List Value} {m:Nat} (hw:w.heap[k]? =some (.cells cur el (0,0))) (hm:m+vs.length≤cur.size):
  ∃cs1,(w.setRow k (cur.toList.take m++vs++cur.toList.drop (m+vs.length)).toArray).heap[k]? =some (.cells cs1 el (0,0))∧cs1.size=cur.size∧ ∀j,j<m→cs1[j]? =cur[j]? :=by
 have hc:cur.toList.length=cur.size:=Array.length_toList;refine ⟨_,setRow_heap w k cur _ el (0,0) hw,by simp;omega,fun j hj=> ?_⟩;rw [List.getElem?_toArray,List.append_assoc,List.getElem?_append_left (by simp;omega),List.getElem?_take_of_lt hj,Array.getElem?_toList]
def u7m (ρ:Rho) (m:Mem) (xs:List AVal) (w w':World):Prop:=
 (∀(b off len z b2 o2 n2:Nat) (c2:w4t) (r:List AVal) (blk:ABlk) (l:Loc),xs=.sl b off len (.un z)::.sl b2 o2 n2 c2::r→1≤n2→Yd m b=some blk→off+len*z=blk.cells.length→ρ b=some l→Vt ρ w' blk l)∧
 ∀r:List AVal,xs=.nils ::r→ ∀(k:Nat) (o:Obj),w.heap[k]? =some o→w'.heap[k]? =some o
theorem x5q {m:Mem} {sz:Nat} {zero:List AVal} {ut:TypeDesc} {b o n2:Nat} {c:w4t} {n:Nat} {new:List AVal} (h:Vs m sz zero ut (.sl b o n2 c)=some (n,new)):n=n2:=by
 have key:Yt m sz (.sl b o n2 c)=some (n,new)→n=n2:=fun h=>by
  simp only [Yt] at h;cases hm:Yd m b with
  | none=>rw [hm] at h;cases h
  | some blk=>rw [hm] at h;simp only [Option.map_eq_some_iff,Prod.mk.injEq] at h;obtain ⟨_,_,e,_⟩:=h;exact e.symm
 cases ut <;> first | exact key h | (cases h;done)
theorem Qx {st st' :St} {w:World} (h:Rel ρ st.mem st.next w) (floor:Nat) {ts:Array TypeId} {type:TypeId} {xs:List AVal} {us:Array Value} {v:AVal} (ha:Qe P floor st ts.toList xs=some (v,st')) (hx:Ws (Yy ρ) xs us.toList):
  ∃ρ' u w',(Builtin.append_ ts type us).run P w=.ok u w'∧x0p ρ floor st st' v w ρ' u w'∧(st'.env=st.env∧st'.ob=st.ob)∧u7m ρ st.mem xs w w':=by
 obtain ⟨ts⟩:=ts;obtain ⟨us⟩:=us;simp only at ha hx;unfold Qe at ha;split at ha
 ·rename_i t tu tts s x txs;cases hx with
  | @cons _ su _ _ hs hx=>
   cases hx with
   | @cons _ ux _ uxs hx _=>
    split at ha
    ·rename_i e ut hu hut;split at ha
     ·rename_i i zero hi hz;split at ha
      ·rename_i n new hcs;obtain ⟨i2,z,hi2,hz2,hzr,_⟩:=Wv (ρ:=ρ) hz;obtain rfl:i=i2:=by rw [hi] at hi2;exact Option.some.inj hi2
       cases hc:(Nat.beq zero.length i.size&&Nat.beq new.length (n*i.size)&&Nat.ble 1 i.size&&new.all z8l) with
       | false=>rw [hc] at ha;cases ha
       | true =>
        rw [hc,cond_true] at ha;simp only [Bool.and_eq_true] at hc;obtain ⟨⟨⟨hzl,hnl⟩,hsz⟩,hsc⟩:=hc;have hzl:=Nat.eq_of_beq_eq_true hzl;have hnl:=Nat.eq_of_beq_eq_true hnl;have hsz:=Nat.le_of_ble_eq_true hsz;have hzs:z.cells.size=i.size:=by rw [←hzr.1];exact hzl
        obtain ⟨vs,hF⟩:=Jz (P:=P) h hu hut hi hz2 hzr hzl hcs hx hnl;have hvs:=hF.rel;have hvsz:vs.size=n*i.size:=by rw [←hvs.1];exact hnl
        have dR:=Yy.cells_oneCell hvs hsc;split at ha
        ·-- nil
         cases hs;cases hn0:Nat.beq n 0 with
         | true=>rw [hn0,cond_true] at ha;simp only [Option.some.injEq,Prod.mk.injEq] at ha;obtain ⟨rfl,rfl⟩:=ha;have hn0:=Nat.eq_of_beq_eq_true hn0;subst hn0;have cX:=hF.hin (type:=type) (ts:=tts) (base:=none) (len:=0) (c:=0) (xs:=uxs) (.inl rfl) (Nat.le_refl _) (w':=w) (fun a e=>by cases e) (fun _=>rfl);exact ⟨ρ,_,w,cX,⟨.nils,h,Ev.refl _ _ _ _ _ h.dom⟩,⟨rfl,rfl⟩,(fun _ _ _ _ _ _ _ _ _ _ _ e=>by cases e),fun _ _ _ _ h=>h⟩
         | false=>
          rw [hn0,cond_false] at ha;cases hrm:Nat.ble ((n+1)*(i.bytes+1)) Us with
          | false=>rw [hrm] at ha;cases ha
          | true=>
           rw [hrm,cond_true] at ha;simp only [Option.some.injEq,Prod.mk.injEq] at ha;obtain ⟨rfl,rfl⟩:=ha;have hrm:=Nat.le_of_ble_eq_true hrm;have hnpos:0<n:=by
            rcases Nat.eq_zero_or_pos n with e | e
            ·rw [e] at hn0;cases hn0
            ·exact e
           obtain ⟨newCap,dB,rest,dP,cX⟩:=hF.hnew (type:=type) (ts:=tts) (base:=none) (len:=0) (c:=0) (xs:=uxs) (old:= #[]) (by simp [Builtin.firstCells]) (by omega) (by simpa [Us] using hrm);simp only [Nat.zero_add,Array.empty_append] at cX dB dP;have hsum:vs.size+rest.size=newCap*i.size:=by rw [hvsz,dP,hzs,←Nat.add_mul];congr 1;omega
           refine ⟨_,_,_,cX,z4f h floor hvs rest e e _ _ (fun ρ' hρ'=> ?_),⟨rfl,rfl⟩,(fun _ _ _ _ _ _ _ _ _ _ _ e=>by cases e),fun _ _ k o h=>x1p h⟩;refine .sl _ 0 _ _ _ _ hρ' ?_ dB;simp only [Qn];rw [hsum,hnl];exact ⟨by rw [Nat.zero_add];exact Nat.mul_le_mul_right _ dB,by omega⟩
        ·-- a slice
         rename_i b off len cap;split at ha
         ·rename_i blk hm;split at ha
          ·rename_i old hold;cases hrm:Nat.ble ((len+n+1)*(i.bytes+1)) Us with
           | false=>rw [hrm] at ha;cases ha
           | true =>
            rw [hrm,cond_true] at ha;have hrm:=Nat.le_of_ble_eq_true hrm;have hrn:n=0∨(n+1)*(i.bytes+1)≤1099511627776:=.inr (Nat.le_trans (Nat.mul_le_mul_right _ (by omega)) hrm);cases hs with
            | sl _ _ _ _ l c hρ dB hlc=>
             obtain ⟨hpold,eZ,holdle⟩:=z4l hold;have eH:=h.blk b l blk hρ hm;have hln:=eH.n;have fE:(len+n)*i.size=len*i.size+n*i.size:=Nat.add_mul _ _ _;have hoff:off+len*i.size≤blk.cells.length∨len*i.size=0:=(by omega);have hcos:Yt st.mem i.size (.sl b off len cap)=some (len,old):=(by simp [Yt,hm,hold]);obtain ⟨_,hfo⟩:=Vz (P:=P) h hcos (.sl b off len cap l c hρ dB hlc) eZ;obtain ⟨ovs,hovs,hof⟩:=hfo len (Nat.le_refl _);rw [List.take_of_length_le (by omega)] at hovs;have hovz:ovs.size=len*i.size:=by rw [←hovs.1];exact eZ
             have hof1:(Builtin.firstCells i.size len (.slice (some ⟨l.blk,l.base+off,none⟩) len c)).run P w.drew=.ok ovs w.drew:=hof (w.drawn+1);have inplace: ∀v st',len+n≤c→floor≤b→off+(len+n)*i.size≤blk.cells.length→
               some (AVal.sl b off (len+n) cap,st.withMem (Xi st.mem b (some ⟨blk.cells.take (off+len*i.size)++new++blk.cells.drop (off+(len+n)*i.size),blk.ty,none⟩)))=some (v,st')→(∀z,cap=.un z→z=i.size)→
               ∃ρ' u w',(Builtin.append_ (t::tu::tts).toArray type ((.slice (some ⟨l.blk,l.base+off,none⟩) len c)::ux::uxs).toArray).run P w=.ok u w'∧x0p ρ floor st st' v w ρ' u w'∧(st'.env=st.env∧st'.ob=st.ob)∧u7m ρ st.mem (.sl b off len cap::x::txs) w w':=by
              intro v st' dC hfl dF he hzc;simp only [Option.some.injEq,Prod.mk.injEq] at he;obtain ⟨rfl,rfl⟩:=he;obtain ⟨cur,el,hw,eT,cU⟩:=h.write hρ hm (off:=off+len*i.size) (cs:=new) (vs:=vs.toList) (by simpa using hvs.1.symm) (by omega) (fun j h1 h2=>by simpa using hvs.2 j h1 (by simpa using h2));have hst:=run_storeCells_at P l.blk (l.base+off+len*i.size) el vs.toList 0 cur w hw (by rw [Nat.add_zero,Nat.add_assoc l.base];exact eT) dR;rw [Nat.add_zero] at hst;have cX:=hF.hin (type:=type) (ts:=tts) (base:=some ⟨l.blk,l.base+off,none⟩) (len:=len) (c:=c) (xs:=uxs) hrn dC (w':=w.setRow l.blk (cur.toList.take (l.base+off+len*i.size)++vs.toList++cur.toList.drop (l.base+off+len*i.size+vs.toList.length)).toArray)
               (fun a e=>by cases e;rw [Xp];exact hst) (fun e=>by cases e)
              refine ⟨ρ,_,_,cX,⟨.sl _ _ _ _ l c hρ dB (by omega),?_,Ev.ofWrite h hρ hfl _ _⟩,⟨rfl,rfl⟩,(fun b' off' len' z b2 o2 n2 c2 r blk' l' e hn hm' hend hl'=> ?keep),fun _ e=>by cases e⟩
              case keep=>exfalso;cases e;obtain rfl:=hzc _ rfl;rw [hm] at hm';obtain rfl:=Option.some.inj hm';obtain rfl:=x5q hcs;have:1*i.size≤n*i.size:=Nat.mul_le_mul_right _ hn;omega
              have e1:off+len*i.size+new.length=off+(len+n)*i.size:=(by omega);rw [e1] at cU
              simpa only [St.withMem,Nat.add_assoc] using cU
             have anew: ∀v st' (st1:St),c<len+n→Rel ρ st1.mem st1.next w→Ev ρ ρ floor st.mem st.next st1.mem st1.next w w→st1.env=st.env→st1.ob=st.ob→
               some (AVal.sl st1.next 0 (len+n) (.un i.size),z8w st1 (old++new) e)=some (v,st')→
               ∃ρ' u w',(Builtin.append_ (t::tu::tts).toArray type ((.slice (some ⟨l.blk,l.base+off,none⟩) len c)::ux::uxs).toArray).run P w=.ok u w'∧x0p ρ floor st st' v w ρ' u w'∧(st'.env=st.env∧st'.ob=st.ob)∧u7m ρ st.mem (.sl b off len cap::x::txs) w w':=by
              intro v st' st1 dC dU hev1 cZ hob he;simp only [Option.some.injEq,Prod.mk.injEq] at he;obtain ⟨rfl,rfl⟩:=he;obtain ⟨newCap,eC,rest,dP,cX⟩:=hF.hnew (type:=type) (ts:=tts) (base:=some ⟨l.blk,l.base+off,none⟩) (len:=len) (c:=c) (xs:=uxs) hof1 dC (by simpa [Us] using hrm);have hov:=hovs.append hvs;have hsum:(ovs++vs).size +rest.size=newCap*i.size:=by rw [Array.size_append,hovz,hvsz,dP,hzs,←Nat.add_mul,←Nat.add_mul];congr 1;omega
              have hp:=z4f dU floor hov rest e e (.sl st1.next 0 (len+n) (.un i.size)) (.slice (some ⟨w.heap.size,0,none⟩) (len+n) newCap) (fun ρ' hρ'=>by
               refine .sl _ 0 _ _ _ _ hρ' ?_ eC;simp only [Qn];rw [hsum];exact ⟨by rw [Nat.zero_add,List.length_append,eZ,hnl,←Nat.add_mul];exact Nat.mul_le_mul_right _ eC,by omega⟩)
              refine ⟨_,_,_,cX,⟨hp.val,hp.rel,hev1.trans hp.ev⟩,⟨?_,?_⟩,(fun b' off' len' z b2 o2 n2 c2 r blk' l' e hn hm' hend hl'=> ?keep),fun _ e=>by cases e⟩
              case keep=>have hq:=h.blk b' l' blk' hl' hm';refine hq.world (Rho.le_refl ρ) ?_;obtain ⟨_,_,_,cs0,el0,g1,_⟩:=hq;rw [g1];exact x1p g1
              ·simpa [z8w] using cZ
              ·simpa [z8w] using hob
             split at ha
             ·-- the capacity is known
              rename_i k;simp only [Qn] at dB;subst dB;cases hk:Nat.ble (len+n) c with
              | true=>
               rw [hk,cond_true] at ha;have hk:=Nat.le_of_ble_eq_true hk;cases hf:(Nat.ble floor b&&Nat.ble (off+(len+n)*i.size) blk.cells.length) with
               | false=>rw [hf] at ha;cases ha
               | true=>rw [hf,cond_true] at ha;simp only [Bool.and_eq_true] at hf;exact inplace _ _ hk (Nat.le_of_ble_eq_true hf.1) (Nat.le_of_ble_eq_true hf.2) ha (fun z e=>by cases e)
              | false=>
               rw [hk,cond_false] at ha;have hk: ¬len+n≤c:=fun e=>by rw [Nat.ble_eq_true_of_le e] at hk;cases hk
               exact anew _ _ st (by omega) h (Ev.refl _ _ _ _ _ h.dom) rfl rfl ha
             ·-- it is not
              rename_i zz;simp only [Qn] at dB;cases hf:(Nat.beq zz i.size&&Nat.ble floor b) with
              | false=>rw [hf] at ha;cases ha
              | true=>
               rw [hf,cond_true] at ha;simp only [Bool.and_eq_true] at hf;have hzz:=Nat.eq_of_beq_eq_true hf.1;have hfl:=Nat.le_of_ble_eq_true hf.2;subst hzz;cases hk:Nat.ble (off+(len+n)*i.size) blk.cells.length with
               | true=>
                rw [hk,cond_true] at ha;have hk:=Nat.le_of_ble_eq_true hk;have dC:len+n≤c:=by rw [hln] at dB;have:(len+n)*i.size≤c*i.size:=(by omega);exact Nat.le_of_mul_le_mul_right this hsz
                exact inplace _ _ dC hfl hk ha (fun z e=>by cases e;rfl)
               | false=>
                rw [hk,cond_false] at ha;cases hend:Nat.beq (off+len*i.size) blk.cells.length with
                | false=>rw [hend] at ha;cases ha
                | true=>
                 rw [hend,cond_true] at ha;have hend:=Nat.eq_of_beq_eq_true hend;by_cases dC:len+n≤c
                 ·-- there is Us: behind what is told
                  simp only [Option.some.injEq,Prod.mk.injEq] at ha;obtain ⟨rfl,rfl⟩:=ha;have hcm:(len+n)*i.size≤c*i.size:=Nat.mul_le_mul_right _ dC;obtain ⟨cur,el,hw,eT,cU⟩:=h.beyond hρ hm (off:=off) (new:=new) (vs:=vs.toList) e (by simpa using hvs.1.symm) (by omega) (by omega) (fun j h1 h2=>by simpa using hvs.2 j h1 (by simpa using h2));have hst:=run_storeCells_at P l.blk (l.base+off+len*i.size) el vs.toList 0 cur w hw (by rw [Nat.add_zero,Nat.add_assoc l.base,hend];exact eT) dR;rw [Nat.add_zero] at hst;have cX:=hF.hin (type:=type) (ts:=tts) (base:=some ⟨l.blk,l.base+off,none⟩) (len:=len) (c:=c) (xs:=uxs) hrn dC (w':=w.setRow l.blk (cur.toList.take (l.base+off+len*i.size)++vs.toList++cur.toList.drop (l.base+off+len*i.size+vs.toList.length)).toArray)
                   (fun a e=>by cases e;rw [Xp];exact hst) (fun e=>by cases e)
                  have hod:old=blk.cells.drop off:=by rw [hpold];exact List.take_of_length_le (by simp;omega)
                  refine ⟨_,_,_,cX,⟨.sl _ 0 _ _ ⟨l.blk,l.base+off,blk.cells.length - off+new.length,l.tot - off⟩ c (by simp [Vd]) ?_ (by omega),?_,Ev.ofBeyond h hρ hfl ⟨l.blk,l.base+off,blk.cells.length - off+new.length,l.tot - off⟩ rfl _ _⟩,⟨rfl,rfl⟩,(fun b' off' len' z b2 o2 n2 c2 r blk' l' e hn hm' _ hl'=> ?keep),fun _ e=>by cases e⟩
                  case keep=>
                   cases e;rw [hm] at hm';obtain rfl:=Option.some.inj hm';rw [hρ] at hl';obtain rfl:=Option.some.inj hl';obtain ⟨q1,q2,q3,cs0,el0,q4,q5,q6⟩:=eH;rw [hw] at q4;obtain ⟨rfl,rfl⟩:cur=cs0∧el=el0:=by have:=Option.some.inj q4;injection this with g1 g2;exact ⟨g1,g2⟩
                   obtain ⟨cs1,s1,s2,s3⟩:=x4h (vs:=vs.toList) hw (m:=l.base+off+len*i.size) (by rw [Nat.add_assoc l.base,hend];exact eT);refine ⟨q1,q2,q3,cs1,el,s1,by rw [s2];exact q5,fun k hk=> ?_⟩;obtain ⟨v,r1,r2⟩:=q6 k hk;exact ⟨v,by rw [s3 _ (by omega)];exact r1,r2⟩
                  ·simp only [Qn];omega
                  ·rw [hod];have e2:l.base+off+len*i.size=l.base+blk.cells.length:=(by omega);rw [e2]
                   simpa only [z8w,St.withMem] using cU
                 ·exact anew _ _ (st.withMem (Xi st.mem b none)) (by omega) (h.kill b) (Ev.ofKill h floor hρ) rfl rfl ha
          ·cases ha
         ·cases ha
        ·cases ha
      ·cases ha
     ·cases ha
    ·cases ha
 ·cases ha
theorem x9b {get:Nat→List AVal} {off len n sz N:Nat} {new:List AVal} (hl: ∀i,i<N→(get i).length =sz) (hN:off+len=N) (hnew:new.length=n*sz):
  (∀i,i<len+n→(Zi get off len sz new i).length =sz)∧rows (len+n) (Zi get off len sz new)=((rows N get).drop (off*sz)).take (len*sz)++new:=by
 have h1: ∀i,i<len+n→(Zi get off len sz new i).length =sz:=fun i hi=>by
  unfold Zi;cases e:Nat.ble len i with
  | true=>have:=Nat.le_of_ble_eq_true e;simp only [cond_true,List.length_take,List.length_drop,hnew];have:(i - len+1)*sz≤n*sz:=Nat.mul_le_mul_right sz (by omega);rw [Nat.add_mul,Nat.one_mul] at this;omega
  | false=>
   have: ¬len≤i:=fun h=>by rw [Nat.ble_eq_true_of_le h] at e;cases e
   exact hl _ (by omega)
 refine ⟨h1,?_⟩;have cW:=Yj (len+n) h1;have hlenN:=Yj N hl;have hd:((rows N get).drop (off*sz)).length =len*sz:=by rw [List.length_drop,hlenN,←hN,Nat.add_mul];omega
 rw [List.take_of_length_le (by omega)];apply List.ext_getElem?;intro i;by_cases hi:i<(len+n)*sz
 ·have hsz:0<sz:=by
   rcases Nat.eq_zero_or_pos sz with e | e
   ·rw [e,Nat.mul_zero] at hi;omega
   ·exact e
  have hj:i %sz<sz:=Nat.mod_lt _ hsz;have hq:i / sz<len+n:=Nat.div_lt_of_lt_mul (by rw [Nat.mul_comm];exact hi);have e:i=i / sz*sz+i %sz:=by rw [Nat.mul_comm];exact (Nat.div_add_mod i sz).symm
  generalize i / sz=q at*;generalize i %sz=j at*;subst e;rw [Wn (len+n) h1 q j hq hj];unfold Zi;cases e:Nat.ble len q with
  | true=>
   have hle:=Nat.le_of_ble_eq_true e;have:len*sz≤q*sz:=Nat.mul_le_mul_right sz hle;simp only [cond_true];rw [List.getElem?_append_right (by omega),hd,List.getElem?_take,if_pos hj,List.getElem?_drop]
   congr 1
   rw [Nat.sub_mul];omega
  | false=>
   have hlt:q<len:=by
    rcases Nat.lt_or_ge q len with h | h
    ·exact h
    ·rw [Nat.ble_eq_true_of_le h] at e;cases e
   have:(q+1)*sz≤len*sz:=Nat.mul_le_mul_right sz hlt;rw [Nat.add_mul,Nat.one_mul] at this;simp only [cond_false];rw [List.getElem?_append_left (by omega),List.getElem?_drop,←Wn N hl (off+q) j (by omega) hj]
   congr 1
   rw [Nat.add_mul];omega
 ·rw [List.getElem?_eq_none (by omega),List.getElem?_eq_none (by rw [List.length_append,hd,hnew,←Nat.add_mul];omega)]
theorem x9j (n:Nat) (z:List AVal):rep n z=rows n fun _=>z:=by unfold rep rows;rw [List.flatMap_def,List.map_const',List.length_range]
theorem Ev.remem {ρ':Rho} {floor:Nat} {m m' m'':Mem} {n n':Nat} {w w':World} (h:Ev ρ ρ' floor m n m' n' w w') (hm: ∀b,b<n→ ∀cs ty,Yd m b=some ⟨cs,ty,none⟩→Yd m'' b=Yd m' b):Ev ρ ρ' floor m n m'' n' w w':=
 ⟨h.ext,h.new,h.nxt,fun b hb e cs ty hc=>by rw [hm b hb cs ty hc];exact h.unborn b hb e cs ty hc,h.frame,h.fresh,h.size,h.os,h.tape,h.output,h.still⟩
theorem Rel.remem {mem mem':Mem} {next:Nat} {w:World} (h:Rel ρ mem next w) (hm: ∀b,Yd mem' b=Yd mem b):Rel ρ mem' next w:=
 ⟨h.dom,fun b b' l l' e e' he hs hs'=>h.inj b b' l l' e e' he (by rw [←hm];exact hs) (by rw [←hm];exact hs'),fun b l ab e hc=>h.blk b l ab e (by rw [←hm];exact hc),h.old,fun b l e hs=>h.sep b l e (by rw [←hm];exact hs),h.real,fun b hb=>by rw [hm];exact h.bd b hb,h.ldom⟩
theorem z8x {cx:Ctx} {st st':St} {w:World} (h:Rel ρ st.mem st.next w) {t:TypeId} {x y v:AVal} {ux uy:Value} (hb:Ju P cx st t x y=some (v,st')) (hob:st'.ob=true) (hx:Yy ρ x ux) (hy:Yy ρ y uy):
  ∃ρ' u w',(Instr.makeSlice t ux uy).run P w=.ok u w'∧x0p ρ cx.floor st st' v w ρ' u w':=by
 unfold Ju at hb;split at hb
 ·rename_i e kl l kc c hu;split at hb
  ·rename_i i zero hi hz;cases dT:(Nat.beq zero.length i.size&&Nat.ble 1 i.size) with
   | false=>rw [dT] at hb;cases hb
   | true=>
    rw [dT,cond_true] at hb;simp only [Bool.and_eq_true] at dT;obtain ⟨k1,k2⟩:=dT;have hzl:=Nat.eq_of_beq_eq_true k1;simp only [Option.map_eq_some_iff,Prod.mk.injEq] at hb;obtain ⟨st1,ho,rfl,rfl⟩:=hb;obtain ⟨o1,o2,o3,o4⟩:=z6s ho;obtain ⟨hc,_⟩:=o4 hob;have m2:st1.mem=Xi st.mem st.next (some ⟨rows c.toNat fun _=>zero,e,some ⟨i.size,c.toNat,.flat fun _=>zero⟩⟩):=o2
    have n2:st1.next=st.next+1:=o3
    have h0:Vi P st t (.int kl l) (.int kc c)=some (.sl st.next 0 l.toNat (.ex c.toNat),z8w st (rep c.toNat zero) e):=by unfold Vi;simp only [hu,hi,hz,k1,hc,Bool.and_self,cond_true]
    obtain ⟨ρ',uv,w',cX,hp,_,_⟩:=Kf h cx.floor h0 hx hy;refine ⟨ρ',uv,w',cX,?_,?_,?_⟩
    ·have hv:=hp.val;cases hv with
     | sl _ _ _ _ l' c' hρ' eC eX=>
      have hbk:=hp.rel.blk st.next l' ⟨rep c.toNat zero,e,none⟩ hρ' (Yx _ _ _)
      have hcn:c'=c.toNat:=eC;have q1:=hbk.n;have q2:=hbk.tot;simp only [Qj,hzl] at q1;have:=Yy.sla (ρ:=ρ') st.next i.size 0 l.toNat (.un i.size) l' c' hρ' (by simp only [Qn,Nat.zero_mul,Nat.zero_add,hcn];omega) eX
      rw [Nat.zero_mul] at this;exact this
    ·have hr:Rel ρ' (Xi st.mem st.next (some ⟨rep c.toNat zero,e,none⟩)) (st.next+1) w':=hp.rel;rw [x9j] at hr;rw [m2,n2];exact hr.setArr ⟨i.size,c.toNat,_⟩ rfl (Nat.le_of_ble_eq_true k2) fun _ _=>hzl
    ·rw [m2,n2];refine hp.ev.remem fun b' hb' cs ty hcs=> ?_;show _=Yd (Xi st.mem st.next _) b';rw [Zw _ _ (by omega),Zw _ _ (by omega)]
  ·cases hb
 ·cases hb
theorem z4x {cx:Ctx} {st st':St} {w:World} (h:Rel ρ st.mem st.next w) {ts:Array TypeId} {type:TypeId} {xs:List AVal} {us:Array Value} {v:AVal} (ha:z2k P cx st ts.toList xs=some (v,st')) (hob:st'.ob=true) (hx:Ws (Yy ρ) xs us.toList):
  ∃ρ' u w',(Builtin.append_ ts type us).run P w=.ok u w'∧x0p ρ cx.floor st st' v w ρ' u w'∧ ∀b sz off len z r blk l,xs=.sla b sz off len (.un z)::r→Yd st.mem b=some blk→ρ b=some l→Vt ρ w' blk l:=by
 obtain ⟨ul⟩:=us;simp only at hx;unfold z2k at ha;split at ha
 ·rename_i t u tr b sz off len z x xr hts;split at ha
  ·rename_i e ut hu hut;split at ha
   ·cases ha
   ·rename_i hni;split at ha
    ·rename_i i hi;split at ha
     ·rename_i n new zero blk hc hz hm;split at ha
      ·rename_i A hA;cases dT:(Nat.beq zero.length i.size&&Nat.beq new.length (n*i.size)&&Nat.ble 1 i.size&&new.all z8l&&Nat.beq sz i.size&&Nat.beq z sz&&Nat.ble cx.floor b&&Nat.ble 1 n) with
       | false=>rw [dT] at ha;cases ha
       | true=>
        rw [dT,cond_true] at ha;have hchk0:=dT;simp only [Bool.and_eq_true] at dT;obtain ⟨⟨⟨⟨⟨⟨⟨k1,k2⟩,k3⟩,k4⟩,k5⟩,k6⟩,k7⟩,k8⟩:=dT;obtain rfl:=Nat.eq_of_beq_eq_true k5;obtain rfl:=Nat.eq_of_beq_eq_true k6;have hnl:=Nat.eq_of_beq_eq_true k2;have hsz1:=Nat.le_of_ble_eq_true k3;have hfl:=Nat.le_of_ble_eq_true k7;have hn1:=Nat.le_of_ble_eq_true k8;simp only [Option.map_eq_some_iff,Prod.mk.injEq] at ha;obtain ⟨st1,ho,rfl,rfl⟩:=ha;obtain ⟨o1,o2,o3,o4⟩:=z6s ho;obtain ⟨hb,_⟩:=o4 hob;simp only [Bool.and_eq_true,decide_eq_true_eq] at hb;obtain ⟨hAs,hfull,dC⟩:=hb;have hAs:=Nat.eq_of_beq_eq_true hAs;have hbn:b<st.next:=by
         rcases Nat.lt_or_ge b st.next with g | g
         ·exact g
         ·rw [h.bd b g] at hm;cases hm
        have m2:st1.mem=Xi (Xi st.mem b none) st.next (some ⟨rows (len+n) (Zi A.get off len i.size new),e,some ⟨i.size,len+n,Zi A.get off len i.size new⟩⟩):=o2
        have n2:st1.next=st.next+1:=o3
        cases hx with
        | cons ha0 hr=>
         cases ha0 with
         | sla _ _ _ _ _ l c hρ dB cW=>
          obtain ⟨dS,eY,dJ⟩:=(h.blk b l blk hρ hm).arr A hA;rw [hAs] at dJ;obtain ⟨q1,q2⟩:=x9b (new:=new) dJ hfull hnl;have hlenr:=Yj A.n dJ;have fE:off*i.size+len*i.size=A.n*i.size:=(by rw [←Nat.add_mul,hfull]);have hcut:cut blk.cells (off*i.size) (len*i.size)=some ((blk.cells.drop (off*i.size)).take (len*i.size)):=by
           unfold cut;simp only;rw [show Nat.beq ((blk.cells.drop (off*i.size)).take (len*i.size)).length (len*i.size)=true from by
            rw [Nat.beq_eq];simp [dS,hlenr];omega]
           rfl
          have hroom':Nat.ble ((len+n+1)*(i.bytes+1)) Us=true:=Nat.ble_eq_true_of_le dC;have hnot:Nat.ble (off*i.size+(len+n)*i.size) blk.cells.length=false:=by
           have:1*i.size≤n*i.size:=Nat.mul_le_mul_right _ hn1;cases g:Nat.ble (off*i.size+(len+n)*i.size) blk.cells.length with
           | false=>rfl
           | true=>have:=Nat.le_of_ble_eq_true g;rw [dS,hlenr,Nat.add_mul] at this;omega
          have hat:Nat.beq (off*i.size+len*i.size) blk.cells.length=true:=(by rw [dS,hlenr,fE,Nat.beq_eq]);have h0:Qe P cx.floor st ts.toList (.sl b (off*i.size) len (.un i.size)::x::xr)=some (.sl st.next 0 (len+n) (.un i.size),z8w (st.withMem (Xi st.mem b none)) (((blk.cells.drop (off*i.size)).take (len*i.size))++new) e):=by
           rw [hts];unfold Qe;simp only [hu,hut,hi,hz];cases ut <;> first
            | (exfalso;exact hni _ rfl)
            | (simp only [Vs,hc,k1,k2,k3,k4,hm,hcut,hroom',k7,hnot,hat,Bool.and_self,cond_true,cond_false,Nat.beq_refl])
          obtain ⟨ρ',uv,w',cX,hp,_,hkeep⟩:=Qx (type:=type) h cx.floor h0 (us:=⟨_⟩) (.cons (.sl _ _ _ _ l c hρ dB cW) hr);refine ⟨ρ',uv,w',cX,⟨?_,?_,?_⟩,fun b' sz' off' len' z' r' blk' l' e hm' hl'=> ?_⟩
          rotate_left 3
          ·injection e with e1 _;injection e1 with f1 _ _ _ _;subst f1;rw [hm] at hm';obtain rfl:=Option.some.inj hm';have hxs: ∃b2 o2 c2,x=.sl b2 o2 n c2:=by
            unfold Yt at hc;split at hc
            ·simp only [Option.some.injEq,Prod.mk.injEq] at hc;omega
            ·split at hc
             ·simp only [Option.map_eq_some_iff,Prod.mk.injEq] at hc;obtain ⟨_,_,rfl,_⟩:=hc;exact ⟨_,_,_,rfl⟩
             ·cases hc
            ·cases hc
           obtain ⟨b2,o2,c2,rfl⟩:=hxs;exact hkeep.1 _ _ _ _ _ _ _ _ _ _ _ rfl hn1 hm (by rw [dS,hlenr,fE]) hl'
          ·have hv:=hp.val;cases hv with
           | sl _ _ _ _ l' c' hρ' eC eX=>
            have:=Yy.sla (ρ:=ρ') st.next i.size 0 (len+n) (.un i.size) l' c' hρ' (by rw [Nat.zero_mul];exact eC) eX
            rw [Nat.zero_mul] at this;exact this
          ·have hr:=hp.rel;rw [m2,n2];have hr:Rel ρ' (Xi (Xi st.mem b none) st.next (some ⟨((blk.cells.drop (off*i.size)).take (len*i.size))++new,e,none⟩)) (st.next+1) w':=hr;rw [dS,←q2] at hr;exact hr.setArr ⟨i.size,len+n,_⟩ rfl hsz1 q1
          ·rw [m2,n2];refine hp.ev.remem fun b' hb' cs ty hcs=> ?_;have hne:b'≠b:=fun e=>by rw [e,hm] at hcs;cases hcs;cases hA
           show _=Yd (Xi (Xi st.mem b none) st.next _) b';rw [Zw _ _ (by omega),Zw _ _ hne,Zw _ _ (by omega),Zw _ _ hne]
         | slan=>
          have hq:=x9b (get:=fun _=>List.replicate i.size AVal.undef) (off:=0) (len:=0) (N:=0) (new:=new) (fun i hi=>absurd hi (Nat.not_lt_zero _)) rfl hnl;have hfe:Zi (fun _=>List.replicate i.size AVal.undef) 0 0 i.size new=Zi A.get off 0 i.size new:=rfl;rw [hfe] at hq;obtain ⟨q1,q2⟩:=hq;have hn0:Nat.beq n 0=false:=by cases n with | zero=>omega | succ n=>rfl
          have hroom':Nat.ble ((n+1)*(i.bytes+1)) Us=true:=Nat.ble_eq_true_of_le (by rw [Nat.zero_add] at dC;exact dC);have h0:Qe P cx.floor st ts.toList (.nils ::x::xr)=some (.sl st.next 0 n (.un i.size),z8w st new e):=by
           rw [hts];unfold Qe;simp only [hu,hut,hi,hz];cases ut <;> first
            | (exfalso;exact hni _ rfl)
            | (simp only [Vs,hc,k1,k2,k3,k4,hn0,hroom',Bool.and_self,cond_true,cond_false])
          obtain ⟨ρ',uv,w',cX,hp,_,hkeep⟩:=Qx (type:=type) h cx.floor h0 (us:=⟨_⟩) (.cons .nils hr);refine ⟨ρ',uv,w',cX,⟨?_,?_,?_⟩,fun b' sz' off' len' z' r' blk' l' e hm' hl'=> ?_⟩
          rotate_left 3
          ·have hq:=h.blk b' l' blk' hl' hm';refine hq.world (Rho.le_refl ρ) ?_;obtain ⟨_,_,_,cs0,el0,g1,_⟩:=hq;rw [g1];exact hkeep.2 _ rfl _ _ g1
          ·have hv:=hp.val;rw [Nat.zero_add];cases hv with
           | sl _ _ _ _ l' c' hρ' eC eX=>
            have:=Yy.sla (ρ:=ρ') st.next i.size 0 n (.un i.size) l' c' hρ' (by rw [Nat.zero_mul];exact eC) eX
            rw [Nat.zero_mul] at this;exact this
          ·have hr:Rel ρ' (Xi st.mem st.next (some ⟨new,e,none⟩)) (st.next+1) w':=hp.rel;have hr:=hr.kill b;have hr:Rel ρ' (Xi (Xi st.mem b none) st.next (some ⟨new,e,none⟩)) (st.next+1) w':=hr.remem fun b'=>by
            simp only [Wt];by_cases e1:b'=st.next
            ·rw [if_pos e1,if_neg (by omega),if_pos e1]
            ·rw [if_neg e1,if_neg e1]
           rw [show new=rows (0+n) (Zi A.get off 0 i.size new) by rw [q2];simp] at hr;rw [m2,n2];have:=hr.setArr ⟨i.size,0+n,Zi A.get off 0 i.size new⟩ rfl hsz1 q1;exact this
          ·rw [m2,n2];refine hp.ev.remem fun b' hb' cs ty hcs=> ?_;have hne:b'≠b:=fun e=>by rw [e,hm] at hcs;cases hcs;cases hA
           show _=Yd (Xi st.mem st.next _) b';rw [Zw _ _ (by omega),Zw _ _ hne,Zw _ _ (by omega)]
      ·cases ha
     ·cases ha
    ·cases ha
  ·cases ha
 ·cases ha
theorem Rel.ghost {mem:Mem} {next:Nat} {w:World} (h:Rel ρ mem next w) (o:Option ABlk):Rel ρ (Xi mem next o) (next+1) w:=by
 have ne: ∀c l,ρ c=some l→c≠next:=fun c l e=>Nat.ne_of_lt (h.dom c l e)
 refine ⟨fun c l e=>Nat.lt_succ_of_lt (h.dom c l e),fun c c' m m' e e' he hs hs'=> ?_,fun c m ac e hc=> ?_,h.old,fun c m e hs=> ?_,h.real,fun c hc=> ?_,fun j l e=>Nat.lt_succ_of_lt (h.ldom j l e)⟩
 ·rw [Zw _ _ (ne _ _ e)] at hs;rw [Zw _ _ (ne _ _ e')] at hs';exact h.inj c c' m m' e e' he hs hs'
 ·rw [Zw _ _ (ne _ _ e)] at hc;exact h.blk c m ac e hc
 ·rw [Zw _ _ (ne _ _ e)] at hs;exact h.sep c m e hs
 ·rw [Zw _ _ (by omega)];exact h.bd c (by omega)
theorem Ev.ghost {mem:Mem} {next:Nat} {w:World} (h:Rel ρ mem next w) (floor:Nat) (o:Option ABlk):Ev ρ ρ floor mem next (Xi mem next o) (next+1) w w where
 ext:=Rho.le_refl _
 new _ _:=rfl
 nxt:=Nat.le_succ _
 unborn k hk _ cs ty hm:=by rw [Zw _ _ (Nat.ne_of_lt hk)];exact hm
 frame _ _ hk _:=hk
 fresh k m hk e:=by have:=h.dom k m e;omega
 size:=Nat.le_refl _
 os:=rfl
 tape:=rfl
 output:=rfl
 still _ _:=rfl
theorem v0l {mem:Mem} {next:Nat} {w:World} (h:Rel ρ mem next w) {n sz:Nat} {g:Nat→List AVal} {ux:Value} (hx:Yy ρ (.dat n g) ux) (hg: ∀i,i<n→(g i).length =sz) (hsz:1≤sz):
  (∀w,(Builtin.lenOf ux).run P w=.ok n w)∧ ∃vs:Array Value,Vk ρ (rows n g) vs∧ ∀d,(Builtin.firstCells sz n ux).run P {w with drawn:=d}=.ok vs {w with drawn:=d}:=by
 cases hx with
 | datn=>exact ⟨fun w=>by simp [Builtin.lenOf], #[],⟨by simp [rows],fun i h1 h2=>by simp [rows] at h1⟩,fun d=>by simp [Builtin.firstCells]⟩
 | datz=>exact ⟨fun w=>by simp [Builtin.lenOf], #[],⟨by simp [rows],fun i h1 h2=>by simp [rows] at h1⟩,fun d=>by simp [Builtin.firstCells,loadCells,loadCellsFrom]⟩
 | dat _ _ blk base sz' cap val dB eU hv hh=>
  refine ⟨fun w=>by simp [Builtin.lenOf],?_⟩;have hl:=Yj n hg;have hdiv: ∀k,k<n*sz→k / sz<n∧k %sz<sz∧k / sz*sz+k %sz=k:=fun k hk=>
   ⟨Nat.div_lt_of_lt_mul (by rw [Nat.mul_comm];exact hk),Nat.mod_lt _ hsz,by rw [Nat.mul_comm];exact Nat.div_add_mod k sz⟩
  have dV: ∀(d k:Nat),k<n*sz→({w with drawn:=d}:World).cell? ((⟨blk,base,none⟩:Addr).add k)=some (val (k / sz) (k %sz)):=by
   intro d k hk;obtain ⟨hq,hj,e4⟩:=hdiv k hk;have hs:sz'=sz:=by rw [←eU _ hq,hg _ hq]
   obtain ⟨cs,el,fz,e1,e2⟩:=hh (k / sz) (k %sz) hq (by omega);have e3:=h.old _ _ e1;rw [hs,e4] at e2;rw [Xp];simp only [World.cell?,e3];exact e2
  refine ⟨_,⟨?_,?_⟩,fun d=>by simp only [Builtin.firstCells];exact run_loadCells _ _ _ (fun k=>val (k / sz) (k %sz)) (dV d)⟩
  ·simp [hl]
  ·intro k h1 h2;obtain ⟨hq,hj,e4⟩:=hdiv k (by rw [←hl];exact h1);have hj':k %sz<(g (k / sz)).length :=by rw [hg _ hq];exact hj
   have hr:=Wn n hg (k / sz) (k %sz) hq hj;rw [e4,List.getElem?_eq_getElem h1,List.getElem?_eq_getElem hj'] at hr;rw [Option.some.inj hr]
   simpa using (hv (k / sz) (k %sz) hq hj').mono (x0a ρ)
theorem y0y {g:Nat→List AVal} {p:AVal→Bool} (n:Nat) (h: ∀i,i<n→(g i).all p=true):(rows n g).all p=true:=by refine List.all_eq_true.2 fun a ha=> ?_;unfold rows at ha;obtain ⟨i,hi,hai⟩:=List.mem_flatMap.1 ha;exact List.all_eq_true.1 (h i (List.mem_range.1 hi)) a hai
theorem z3a {get:Nat→List AVal} {sz N off len:Nat} (hl: ∀i,i<N→(get i).length =sz) (h:off+len≤N):rows len (fun k=>get (off+k))=((rows N get).drop (off*sz)).take (len*sz):=by
 have h1: ∀k,k<len→(get (off+k)).length =sz:=fun k hk=>hl _ (by omega);have hL:=Yj len h1;have hN:=Yj N hl;have hm:(off+len)*sz≤N*sz:=Nat.mul_le_mul_right _ h;rw [Nat.add_mul] at hm;apply List.ext_getElem?;intro i;by_cases hi:i<len*sz
 ·have hsz:0<sz:=by
   rcases Nat.eq_zero_or_pos sz with e | e
   ·rw [e,Nat.mul_zero] at hi;omega
   ·exact e
  have hj:i %sz<sz:=Nat.mod_lt _ hsz;have hq:i / sz<len:=Nat.div_lt_of_lt_mul (by rw [Nat.mul_comm];exact hi);have e:i / sz*sz+i %sz=i:=by rw [Nat.mul_comm];exact Nat.div_add_mod i sz
  have a1:=Wn len h1 (i / sz) (i %sz) hq hj;have a2:=Wn N hl (off+i / sz) (i %sz) (by omega) hj;rw [e] at a1;rw [a1,List.getElem?_take,if_pos hi,List.getElem?_drop,←a2]
  congr 1
  rw [Nat.add_mul];omega
 ·rw [List.getElem?_eq_none (by omega),List.getElem?_eq_none (by simp;omega)]
theorem y8f {mem:Mem} {next:Nat} {w:World} (h:Rel ρ mem next w) {t u e:TypeId} {ut:TypeDesc} {i:TypeInfo} {z:Value} {zero:List AVal} {x:AVal} {ux:Value} {n:Nat} {g:Nat→List AVal} {o:Bool} (hu:P.underlying t=some (.slice e)) (hut:P.underlying u=some ut) (hi:P.info? e=some i) (hz:i.zero=some z)
  (hzr:Vk ρ zero z.cells) (hzl:zero.length=i.size) (hzs:zero.all z8l=true) (hsz:1≤i.size) (hc:y8g mem i.size zero ut x=some (n,g,o)) (ho:o=true) (hx:Yy ρ x ux):
  (∀k,k<n→(g k).length =i.size)∧ ∃vs,v6x P ρ t u e i z ux n (rows n g) vs w∧ ∀v∈vs.toList,v.oneCell'=true:=by
 subst ho;unfold y8g at hc;split at hc
 ·rename_i k m;split at hc
  ·rename_i kt;simp only [Option.some.injEq,Prod.mk.injEq] at hc;obtain ⟨rfl,rfl,h0⟩:=hc;have hcs:Vs mem i.size zero (.int kt) (.int k m)=some (m.toNat,rep m.toNat zero):=by unfold Vs;simp only [h0,cond_true]
   obtain ⟨vs,hF⟩:=Jz (P:=P) (u:=u) (t:=t) h hu hut hi hz hzr hzl hcs hx (by rw [Qj,hzl]);rw [x9j] at hF;exact ⟨fun _ _=>hzl,vs,hF,Yy.cells_oneCell hF.rel (y0y _ fun _ _=>hzs)⟩
  ·cases hc
 ·rename_i nn gg;split at hc
  ·cases hc
  ·rename_i hni;simp only [Option.some.injEq,Prod.mk.injEq] at hc;obtain ⟨rfl,rfl,h0⟩:=hc;have hp:= @of_decide_eq_true _ (Classical.propDecidable _) h0;obtain ⟨cW,vs,hvs,hfc⟩:=v0l (P:=P) h hx (fun i hi=>(hp i hi).1) hsz;have eD:(Builtin.firstCells i.size nn ux).run P w=.ok vs w:=hfc w.drawn;have hfc1:(Builtin.firstCells i.size nn ux).run P w.drew=.ok vs w.drew:=hfc (w.drawn+1);exact ⟨fun i hi=>(hp i hi).1,vs,⟨hvs,fun _ dC _ hst hno=>z6d hu hut (fun k e=>hni k e) hi (cW w) eD dC hst hno,fun hold dC eB=>z4s hu hut (fun k e=>hni k e) hi hz (cW w) hfc1 hold dC eB⟩,
    Yy.cells_oneCell hvs (y0y _ fun i hi=>(hp i hi).2)⟩
 ·split at hc
  ·cases hc
  ·rename_i hni;simp only [Option.some.injEq,Prod.mk.injEq] at hc;obtain ⟨rfl,rfl,_⟩:=hc;have hcs:Vs mem i.size zero ut .nils =some (0,[]):=by
    unfold Vs;split
    ·rename_i k;exact absurd rfl (hni k)
    ·rfl
   obtain ⟨vs,hF⟩:=Jz (P:=P) (u:=u) (t:=t) h hu hut hi hz hzr hzl hcs hx (by simp);exact ⟨fun k hk=>absurd hk (Nat.not_lt_zero _),vs,hF,Yy.cells_oneCell hF.rel rfl⟩
 ·rename_i b zz off len0 cap;split at hc
  ·cases hc
  ·rename_i hni;split at hc
   ·rename_i cells ty A hm;simp only [Option.some.injEq,Prod.mk.injEq,Bool.and_eq_true,decide_eq_true_eq] at hc;obtain ⟨rfl,rfl,h1,h2,dF,h4⟩:=hc;have hp:= @of_decide_eq_true _ (Classical.propDecidable _) h4;have h1:=Nat.eq_of_beq_eq_true h1;have h2:=Nat.eq_of_beq_eq_true h2;subst h1;have nc: ∀v,Vs mem i.size zero ut v=Yt mem i.size v:=fun v=>by
     unfold Vs;split
     ·rename_i k;exact absurd rfl (hni k)
     ·rfl
    cases hx with
    | sla _ _ _ _ _ l c hρ dB hlc=>
     obtain ⟨dS,eY,dJ⟩:=(h.blk b l _ hρ hm).arr A rfl;rw [h2] at dJ;simp only at dS;have hrp:=z3a dJ dF;have hlr:=Yj A.n dJ;have hm2:(off+len0)*i.size≤A.n*i.size:=Nat.mul_le_mul_right _ dF;rw [Nat.add_mul] at hm2;have cW:((cells.drop (off*i.size)).take (len0*i.size)).length =len0*i.size:=by rw [List.length_take,List.length_drop,dS,hlr];omega
     have hcut:cut cells (off*i.size) (len0*i.size)=some ((cells.drop (off*i.size)).take (len0*i.size)):=by unfold cut;simp only;rw [show Nat.beq ((cells.drop (off*i.size)).take (len0*i.size)).length (len0*i.size)=true from by rw [Nat.beq_eq];exact cW];rfl
     have hcs:Vs mem i.size zero ut (.sl b (off*i.size) len0 (.ex c))=some (len0,(cells.drop (off*i.size)).take (len0*i.size)):=by rw [nc];simp [Yt,hm,hcut]
     obtain ⟨vs,hF⟩:=Jz (P:=P) (u:=u) (t:=t) h hu hut hi hz hzr hzl hcs (.sl b (off*i.size) len0 (.ex c) l c hρ rfl hlc) cW;rw [dS,←hrp] at hF;exact ⟨fun k hk=>(hp k hk).1,vs,hF,Yy.cells_oneCell hF.rel (y0y _ fun k hk=>(hp k hk).2)⟩
    | slan=>
     have hcs:Vs mem i.size zero ut .nils =some (0,[]):=by rw [nc];rfl
     obtain ⟨vs,hF⟩:=Jz (P:=P) (u:=u) (t:=t) h hu hut hi hz hzr hzl hcs .nils (by simp);exact ⟨fun k hk=>absurd hk (Nat.not_lt_zero _),vs,hF,Yy.cells_oneCell hF.rel rfl⟩
   ·cases hc
 ·cases hc
def u7n (P:Program) (ρ:Rho) (floor:Nat) (mem mem':Mem) (next:Nat) (sz:Nat) (e:TypeId) (N:Nat) (G:Nat→List AVal) (w:World) (r:World→Result Value):Prop:=
 ∃ρ' u w',r w=.ok u w'∧Yy ρ' (.sla next sz 0 N (.un sz)) u∧Rel ρ' (Xi mem' next (some ⟨rows N G,e,some ⟨sz,N,G⟩⟩)) (next+1) w'∧Ev ρ ρ' floor mem next (Xi mem' next (some ⟨rows N G,e,some ⟨sz,N,G⟩⟩)) (next+1) w w'
theorem y3s {mem:Mem} {next:Nat} {w:World} (h:Rel ρ mem next w) (floor:Nat) {t u e:TypeId} {type:TypeId} {ts:List TypeId} {xs:List Value} {i:TypeInfo} {z ux:Value} {n:Nat} {new:List AVal} {vs:Array Value} (hF:v6x P ρ t u e i z ux n new vs w)
  (dR: ∀v∈vs.toList,v.oneCell'=true) (hnl:new.length=n*i.size) (hzs:z.cells.size=i.size) (hsz:1≤i.size) {len c off b:Nat} {l:Loc} {blk:ABlk} (hrm:(len+n+1)*(i.bytes+1)≤Us)
  (hρ:ρ b=some l) (hm:Yd mem b=some blk) (hfl:floor≤b) (hoff:off+len*i.size≤blk.cells.length) (hlc:len≤c) (dB:(l.n≤off+c*i.size∧off+c*i.size≤l.tot)∨c≤len)
  {G:Nat→List AVal} (hG:rows (len+n) G=(blk.cells.drop off).take (len*i.size)++new) (hGl: ∀k,k<len+n→(G k).length =i.size):
  u7n P ρ floor mem (Xi mem b none) next i.size e (len+n) G w fun w=>(Builtin.append_ (t::u::ts).toArray type ((.slice (some ⟨l.blk,l.base+off,none⟩) len c)::ux::xs).toArray).run P w:=by
 have hvs:=hF.rel;have hvsz:vs.size=n*i.size:=by rw [←hvs.1];exact hnl
 have hbk:=h.blk b l blk hρ hm;have hln:=hbk.n;have htot:=hbk.tot;have fE:(len+n)*i.size=len*i.size+n*i.size:=Nat.add_mul _ _ _;have hcut:cut blk.cells off (len*i.size)=some ((blk.cells.drop off).take (len*i.size)):=by unfold cut;simp only;rw [show Nat.beq ((blk.cells.drop off).take (len*i.size)).length (len*i.size)=true from by rw [Nat.beq_eq];simp;omega];rfl
 have hcos:Yt mem i.size (.sl b off len (.ex c))=some (len,(blk.cells.drop off).take (len*i.size)):=by simp [Yt,hm,hcut]
 have eZ:((blk.cells.drop off).take (len*i.size)).length =len*i.size:=by simp;omega
 obtain ⟨_,hfo⟩:=Vz (P:=P) h hcos (.sl b off len (.ex c) l c hρ rfl hlc) eZ;obtain ⟨ovs,hovs,hof⟩:=hfo len (Nat.le_refl _);rw [List.take_of_length_le (by omega)] at hovs;have hovz:ovs.size=len*i.size:=by rw [←hovs.1];exact eZ
 have hof1:(Builtin.firstCells i.size len (.slice (some ⟨l.blk,l.base+off,none⟩) len c)).run P w.drew=.ok ovs w.drew:=hof (w.drawn+1);have hrn:n=0∨(n+1)*(i.bytes+1)≤1099511627776:=.inr (Nat.le_trans (Nat.mul_le_mul_right _ (by omega)) hrm);by_cases dC:len+n≤c
 ·-- there is Us
  have hcm:(len+n)*i.size≤c*i.size:=Nat.mul_le_mul_right _ dC;obtain ⟨T,t1,t2,t3⟩: ∃T,off+len*i.size - off+new.length≤T∧off+T≤l.tot∧c*i.size≤T:=by
   rcases dB with ⟨c1,c2⟩ | c1
   ·exact ⟨l.tot - off,by omega,by omega,by omega⟩
   ·have:n=0:=(by omega);subst this;have:c=len:=(by omega);subst this;exact ⟨c*i.size,by omega,by omega,by omega⟩
  obtain ⟨cur,el,hw,eT,cU⟩:=h.beyond2 hρ hm (off:=off) (m:=off+len*i.size) (T:=T) (new:=new) (vs:=vs.toList) e (by simpa using hvs.1.symm) (by omega) hoff t1 t2 (fun j h1 h2=>by simpa using hvs.2 j h1 (by simpa using h2));have hst:=run_storeCells_at P l.blk (l.base+off+len*i.size) el vs.toList 0 cur w hw (by rw [Nat.add_zero,Nat.add_assoc l.base];exact eT) dR;rw [Nat.add_zero] at hst;have cX:=hF.hin (type:=type) (ts:=ts) (base:=some ⟨l.blk,l.base+off,none⟩) (len:=len) (c:=c) (xs:=xs) hrn dC (w':=w.setRow l.blk (cur.toList.take (l.base+off+len*i.size)++vs.toList++cur.toList.drop (l.base+off+len*i.size+vs.toList.length)).toArray)
   (fun a e=>by cases e;rw [Xp];exact hst) (fun e=>by cases e)
  have hdt:(blk.cells.take (off+len*i.size)).drop off=(blk.cells.drop off).take (len*i.size):=by rw [List.drop_take];congr 1;omega
  rw [hdt,←hG,←Nat.add_assoc] at cU;refine ⟨_,_,_,cX,?_,cU.setArr ⟨i.size,len+n,G⟩ rfl hsz hGl,?_⟩
  ·have:=Yy.sla (ρ:=Vd ρ next ⟨l.blk,l.base+off,off+len*i.size - off+new.length,T⟩) next i.size 0 (len+n) (.un i.size) ⟨l.blk,l.base+off,off+len*i.size - off+new.length,T⟩ c (by simp [Vd])
    (by simp only [Qn,Nat.zero_mul,Nat.zero_add];omega) (by omega)
   rw [Nat.zero_mul] at this;exact this
  ·exact Ev.ofBeyond h hρ hfl ⟨l.blk,l.base+off,off+len*i.size - off+new.length,T⟩ rfl _ _
 ·-- a new row
  let st:St:=⟨.leaf,mem,next,[],true⟩
  have dU:Rel ρ (st.withMem (Xi mem b none)).mem (st.withMem (Xi mem b none)).next w:=h.kill b
  obtain ⟨newCap,eC,rest,dP,cX⟩:=hF.hnew (type:=type) (ts:=ts) (base:=some ⟨l.blk,l.base+off,none⟩) (len:=len) (c:=c) (xs:=xs) hof1 (by omega) (by simpa [Us] using hrm);have hov:=hovs.append hvs;have hsum:(ovs++vs).size +rest.size=newCap*i.size:=by rw [Array.size_append,hovz,hvsz,dP,hzs,←Nat.add_mul,←Nat.add_mul];congr 1;omega
  have hp:=z4f dU floor hov rest e e (.sla next i.size 0 (len+n) (.un i.size)) (.slice (some ⟨w.heap.size,0,none⟩) (len+n) newCap) (fun ρ' hρ'=>by
   have:=Yy.sla (ρ:=ρ') next i.size 0 (len+n) (.un i.size) _ newCap hρ' (by
    simp only [Qn];rw [hsum];exact ⟨by rw [Nat.zero_mul,Nat.zero_add,List.length_append,eZ,hnl,←Nat.add_mul];exact Nat.mul_le_mul_right _ eC,by omega⟩) eC
   rw [Nat.zero_mul] at this;exact this)
  rw [←hG] at hp;refine ⟨Vd ρ next ⟨w.heap.size,0,(rows (len+n) G).length,(ovs++vs).size +rest.size⟩,_,_,cX,hp.val,?_,?_⟩
  ·exact Rel.setArr hp.rel ⟨i.size,len+n,G⟩ rfl hsz hGl
  ·refine ((Ev.ofKill h floor hρ).trans hp.ev).remem fun b' hb' cs ty hcs=> ?_;have hne: ¬b'=next:=Nat.ne_of_lt hb'
   show Yd (Xi (Xi mem b none) next _) b'=Yd (Xi (Xi mem b none) next _) b';simp only [Wt,if_neg hne]
theorem x2m {mem:Mem} {next:Nat} {w:World} (h:Rel ρ mem next w) (floor:Nat) {t u e:TypeId} {type:TypeId} {ts:List TypeId} {xs:List Value} {i:TypeInfo} {z ux:Value} {n:Nat} {new:List AVal} {vs:Array Value} (hF:v6x P ρ t u e i z ux n new vs w)
  (hnl:new.length=n*i.size) (hzs:z.cells.size=i.size) (hsz:1≤i.size) (hrm:(0+n+1)*(i.bytes+1)≤Us) {G:Nat→List AVal} (hG:rows (0+n) G=new) (hGl: ∀k,k<0+n→(G k).length =i.size):
  u7n P ρ floor mem mem next i.size e (0+n) G w fun w=>(Builtin.append_ (t::u::ts).toArray type ((.slice none 0 0)::ux::xs).toArray).run P w:=by
 have hvs:=hF.rel;have hvsz:vs.size=n*i.size:=by rw [←hvs.1];exact hnl
 rcases Nat.eq_zero_or_pos n with hn0 | hnpos
 ·subst hn0;have cX:=hF.hin (type:=type) (ts:=ts) (base:=none) (len:=0) (c:=0) (xs:=xs) (.inl rfl) (Nat.le_refl _) (w':=w) (fun a e=>by cases e) (fun _=>rfl);exact ⟨ρ,_,w,cX,.slan _ _ _ _,h.ghost _,Ev.ghost h floor _⟩
 ·obtain ⟨newCap,dB,rest,dP,cX⟩:=hF.hnew (type:=type) (ts:=ts) (base:=none) (len:=0) (c:=0) (xs:=xs) (old:= #[]) (by simp [Builtin.firstCells]) (by omega) (by simpa [Us] using hrm);have e0:(#[]:Array Value)++vs=vs:=by simp
  rw [e0] at cX;have hsum:vs.size+rest.size=newCap*i.size:=by rw [hvsz,dP,hzs,←Nat.add_mul];congr 1;omega
  let st:St:=⟨.leaf,mem,next,[],true⟩
  have dU:Rel ρ st.mem st.next w:=h
  have hp:=z4f dU floor hvs rest e e (.sla next i.size 0 (0+n) (.un i.size)) (.slice (some ⟨w.heap.size,0,none⟩) (0+n) newCap) (fun ρ' hρ'=>by
   have:=Yy.sla (ρ:=ρ') next i.size 0 (0+n) (.un i.size) _ newCap hρ' (by
    simp only [Qn];rw [hsum,hnl];exact ⟨by rw [Nat.zero_mul,Nat.zero_add];exact Nat.mul_le_mul_right _ (by omega),by omega⟩) dB
   rw [Nat.zero_mul] at this;exact this)
  rw [←hG] at hp;refine ⟨Vd ρ next ⟨w.heap.size,0,(rows (0+n) G).length,vs.size+rest.size⟩,_,_,cX,hp.val,Rel.setArr hp.rel ⟨i.size,0+n,G⟩ rfl hsz hGl,?_⟩
  ·refine hp.ev.remem fun b' hb' cs ty hcs=> ?_;have hne: ¬b'=next:=Nat.ne_of_lt hb'
   show Yd (Xi mem next _) b'=Yd (Xi mem next _) b';simp only [Wt,if_neg hne]
theorem Jg {α β:Type} {f g:α→List β}: ∀{l:List α},(∀a,a∈l→f a=g a)→l.flatMap f=l.flatMap g
 | [],_=>rfl
 | a::l,h=>by rw [List.flatMap_cons,List.flatMap_cons,h a (by simp),Jg fun b hb=>h b (by simp [hb])]
theorem y0x {get g:Nat→List AVal} {len n sz:Nat} (hl: ∀i,i<len→(get i).length =sz) (hg: ∀i,i<n→(g i).length =sz):
  (∀i,i<len+n→(Xa get len g i).length =sz)∧rows (len+n) (Xa get len g)=rows len get++rows n g:=by
 have h1: ∀i,i<len+n→(Xa get len g i).length =sz:=fun i hi=>by
  unfold Xa;cases e:Nat.ble len i with
  | true=>have:=Nat.le_of_ble_eq_true e;simp only [cond_true];exact hg _ (by omega)
  | false=>
   have: ¬len≤i:=fun h=>by rw [Nat.ble_eq_true_of_le h] at e;cases e
   exact hl _ (by omega)
 refine ⟨h1,?_⟩;unfold rows;rw [List.range_add,List.flatMap_append]
 congr 1
 ·refine Jg fun i hi=> ?_;have:=List.mem_range.1 hi;unfold Xa;rw [show Nat.ble len i=false from Bool.eq_false_iff.2 fun e=>by have:=Nat.le_of_ble_eq_true e;omega];rfl
 ·rw [List.flatMap_map];refine Jg fun i hi=> ?_;unfold Xa;rw [show Nat.ble len (len+i)=true from Nat.ble_eq_true_of_le (Nat.le_add_right _ _),cond_true,Nat.add_sub_cancel_left]
theorem x4t {sz:Nat}: ∀(n:Nat) (l:List AVal),l.length=n*sz→rows n (fun k=>(l.drop (k*sz)).take sz)=l∧ ∀k,k<n→((l.drop (k*sz)).take sz).length =sz:=by
 intro n l hl;have h1: ∀k,k<n→((l.drop (k*sz)).take sz).length =sz:=fun k hk=>by have:(k+1)*sz≤n*sz:=Nat.mul_le_mul_right _ hk;rw [Nat.add_mul,Nat.one_mul] at this;simp;omega
 refine ⟨?_,h1⟩;have cW:=Yj n h1;apply List.ext_getElem?;intro i;by_cases hi:i<n*sz
 ·have hsz:0<sz:=by
   rcases Nat.eq_zero_or_pos sz with e | e
   ·rw [e,Nat.mul_zero] at hi;omega
   ·exact e
  have hj:i %sz<sz:=Nat.mod_lt _ hsz;have hq:i / sz<n:=Nat.div_lt_of_lt_mul (by rw [Nat.mul_comm];exact hi);have e:i / sz*sz+i %sz=i:=by rw [Nat.mul_comm];exact Nat.div_add_mod i sz
  have:=Wn n h1 (i / sz) (i %sz) hq hj;rw [e] at this;rw [this,List.getElem?_take,if_pos hj,List.getElem?_drop,e]
 ·rw [List.getElem?_eq_none (by omega),List.getElem?_eq_none (by omega)]
theorem y5n {cx:Ctx} {st st':St} {w:World} (h:Rel ρ st.mem st.next w) {ts:Array TypeId} {type:TypeId} {xs:List AVal} {us:Array Value} {v:AVal} (ha:Qw P cx st ts.toList xs=some (v,st')) (hob:st'.ob=true) (hx:Ws (Yy ρ) xs us.toList):
  ∃ρ' u w',(Builtin.append_ ts type us).run P w=.ok u w'∧x0p ρ cx.floor st st' v w ρ' u w':=by
 obtain ⟨ts⟩:=ts;obtain ⟨us⟩:=us;simp only at ha hx;unfold Qw at ha;split at ha
 ·rename_i t tu tts s x txs;cases hx with
  | @cons _ su _ _ hs hx=>
   cases hx with
   | @cons _ ux _ uxs hx _=>
    split at ha
    ·rename_i e ut hu hut;split at ha
     ·rename_i i zero hi hz;split at ha
      ·rename_i b len get o1 n g o2 ht hc;obtain ⟨i2,z,hi2,hz2,hzr,_⟩:=Wv (ρ:=ρ) hz;obtain rfl:i=i2:=by rw [hi] at hi2;exact Option.some.inj hi2
       obtain ⟨dT,ha⟩:=Qy ha;simp only [Bool.and_eq_true] at dT;obtain ⟨⟨⟨hzl,hzsc⟩,hsz⟩,hfl⟩:=dT;have hzl:=Nat.eq_of_beq_eq_true hzl;have hsz:=Nat.le_of_ble_eq_true hsz;have hzs:z.cells.size=i.size:=by rw [←hzr.1];exact hzl
       simp only [Option.map_eq_some_iff,Prod.mk.injEq] at ha;obtain ⟨st1,ho,rfl,rfl⟩:=ha;obtain ⟨_,m2,n2,o4⟩:=z6s ho;obtain ⟨hb,_⟩:=o4 hob;simp only [Bool.and_eq_true,decide_eq_true_eq] at hb;obtain ⟨hb1,hb2,hrm⟩:=hb;have m2:st1.mem=Xi (x6j st.mem b) st.next (some ⟨rows (len+n) (Xa get len g),e,some ⟨i.size,len+n,Xa get len g⟩⟩):=m2
       have n2:st1.next=st.next+1:=n2
       obtain ⟨hgl,vs,hF,dR⟩:=y8f (P:=P) (u:=tu) (t:=t) h hu hut hi hz2 hzr hzl hzsc hsz hc hb2 hx;have hnl:=Yj n hgl
       suffices u7n P ρ cx.floor st.mem (x6j st.mem b) st.next i.size e (len+n) (Xa get len g) w fun w=>(Builtin.append_ (t::tu::tts).toArray type (su::ux::uxs).toArray).run P w by obtain ⟨ρ',u,w',cX,hv,hr,hev⟩:=this;exact ⟨ρ',u,w',cX,hv,by rw [m2,n2];exact hr,by rw [m2,n2];exact hev⟩
       unfold z3x at ht;split at ht
       ·simp only [Option.some.injEq,Prod.mk.injEq] at ht;obtain ⟨rfl,rfl,rfl,_⟩:=ht;cases hs;obtain ⟨q1,q2⟩:=y0x (get:=fun _=>[]) (len:=0) (fun i hi=>absurd hi (Nat.not_lt_zero _)) hgl;exact x2m h cx.floor hF hnl hzs hsz hrm (by rw [q2];simp [rows]) q1
       ·rename_i b0 off len0 cap;split at ht
        ·rename_i blk hm;split at ht
         ·rename_i old hold;obtain ⟨eR,ht⟩:=Qy ht;simp only [Bool.and_eq_true] at eR;obtain ⟨eR,hoff⟩:=eR;have hoff:=Nat.le_of_ble_eq_true hoff;simp only [Option.some.injEq,Prod.mk.injEq] at ht;obtain ⟨rfl,rfl,rfl,_⟩:=ht;obtain ⟨k1,k2,k3⟩:=z4l hold;obtain ⟨r1,r2⟩:=x4t len0 old k2;obtain ⟨q1,q2⟩:=y0x r2 hgl;cases hs with
          | sl _ _ _ _ l c hρ dB hlc=>
           have hbk:=h.blk b0 l blk hρ hm;have k4:off+len0*i.size≤blk.cells.length:=(by omega);refine y3s h cx.floor hF dR hnl hzs hsz hrm hρ hm (Nat.le_of_ble_eq_true hfl) k4 hlc ?_ (by rw [q2,r1,k1]) q1;cases cap with
           | ex k=>exact .inr (by simp only [Qn] at dB;rw [dB];exact Nat.le_of_ble_eq_true eR)
           | un zz=>have:=Nat.eq_of_beq_eq_true eR;simp only [Qn] at dB;exact .inl (by rw [←this];exact dB)
         ·cases ht
        ·cases ht
       ·rename_i b0 zz off len0 cap;split at ht
        ·rename_i blk hm;split at ht
         ·rename_i A hA;obtain ⟨eR,ht⟩:=Qy ht;simp only [Option.some.injEq,Prod.mk.injEq] at ht;obtain ⟨rfl,rfl,rfl,rfl⟩:=ht;simp only [Bool.and_eq_true,decide_eq_true_eq] at hb1;obtain ⟨hz1,hz2',dF⟩:=hb1;obtain rfl:=Nat.eq_of_beq_eq_true hz1;have hAs:=Nat.eq_of_beq_eq_true hz2';cases hs with
          | sla _ _ _ _ _ l c hρ dB hlc=>
           obtain ⟨dS,eY,dJ⟩:=(h.blk b0 l blk hρ hm).arr A hA;rw [hAs] at dJ;have hlr:=Yj A.n dJ;have hgl0: ∀k,k<len0→(A.get (off+k)).length =i.size:=fun k hk=>dJ _ (by omega);obtain ⟨q1,q2⟩:=y0x hgl0 hgl;have hm2:(off+len0)*i.size≤A.n*i.size:=Nat.mul_le_mul_right _ dF;rw [Nat.add_mul] at hm2;refine y3s h cx.floor hF dR hnl hzs hsz hrm hρ hm (Nat.le_of_ble_eq_true hfl) (by rw [dS,hlr];exact hm2) hlc ?_ (by rw [q2,z3a dJ dF,dS]) q1;cases cap with
           | ex k=>exact .inr (by simp only [Qn] at dB;rw [dB];exact Nat.le_of_ble_eq_true eR)
           | un zz=>have:=Nat.eq_of_beq_eq_true eR;simp only [Qn] at dB;exact .inl (by rw [←this] at dB ⊢;exact dB)
          | slan=>
           obtain ⟨q1,q2⟩:=y0x (get:=fun k=>A.get (off+k)) (len:=0) (fun i hi=>absurd hi (Nat.not_lt_zero _)) hgl;obtain ⟨ρ',u,w',cX,hv,hr,hev⟩:=x2m (P:=P) (type:=type) (ts:=tts) (xs:=uxs) h cx.floor hF hnl hzs hsz hrm (G:=Xa (fun k=>A.get (off+k)) 0 g) (by rw [q2];simp [rows]) q1;have hbn:b0<st.next:=by
            rcases Nat.lt_or_ge b0 st.next with g | g
            ·exact g
            ·rw [h.bd b0 g] at hm;cases hm
           refine ⟨ρ',u,w',cX,hv,?_,?_⟩
           ·refine (hr.kill b0).remem fun b'=> ?_;simp only [x6j,Wt];by_cases e1:b'=st.next
            ·rw [if_pos e1,if_neg (by omega),if_pos e1]
            ·rw [if_neg e1,if_neg e1]
           ·refine hev.remem fun b' hb' cs ty hcs=> ?_;have hne:b'≠b0:=fun e=>by rw [e,hm] at hcs;cases hcs;cases hA
            show Yd (Xi (Xi st.mem b0 none) st.next _) b'=Yd (Xi st.mem st.next _) b';rw [Zw _ _ (by omega),Zw _ _ hne,Zw _ _ (by omega)]
         ·cases ht
        ·cases ht
       ·cases ht
      ·cases ha
     ·cases ha
    ·cases ha
 ·cases ha
theorem x8f {st st':St} {w:World} (h:Rel ρ st.mem st.next w) (floor:Nat) {ts:Array TypeId} {type:TypeId} {xs:List AVal} {us:Array Value} {v:AVal} (ha:x8h P floor st ts.toList xs=some (v,st')) (hx:Ws (Yy ρ) xs us.toList):
  ∃ρ' u w',(Builtin.copy_ ts type us).run P w=.ok u w'∧x0p ρ floor st st' v w ρ' u w'∧st'.env=st.env∧st'.ob=st.ob:=by
 obtain ⟨ts⟩:=ts;obtain ⟨us⟩:=us;simp only at ha hx;unfold x8h at ha;split at ha
 ·rename_i t _ d x _;cases hx with
  | @cons _ ud _ _ hd hx=>
   cases hx with
   | @cons _ ux _ uxs hx _=>
    split at ha
    ·rename_i e hu;split at ha
     ·rename_i i hi;split at ha
      ·rename_i m src hcs;cases hc:(Nat.beq src.length (m*i.size)&&src.all z8l) with
       | false=>rw [hc] at ha;cases ha
       | true=>
        rw [hc,cond_true] at ha;simp only [Bool.and_eq_true] at hc;have hsl:=Nat.eq_of_beq_eq_true hc.1;have hsc:=hc.2;obtain ⟨cW,dO⟩:=Vz (P:=P) h hcs hx hsl;split at ha
        ·cases hd;simp only [Option.some.injEq,Prod.mk.injEq] at ha;obtain ⟨rfl,rfl⟩:=ha;obtain ⟨vs,hvs,hfc⟩:=dO 0 (Nat.zero_le _);have eD:(Builtin.firstCells i.size 0 ux).run P w=.ok vs w:=hfc w.drawn;refine ⟨ρ,_,w,?_,⟨.int _ _,h,Ev.refl _ _ _ _ _ h.dom⟩,rfl,rfl⟩;simp [Builtin.copy_,run_underlying hu,cW,Zn hi,eD,goInt]
        ·rename_i dn dg;obtain ⟨hdn,ha'⟩:=Qy ha;clear ha;obtain rfl:=Nat.eq_of_beq_eq_true hdn;simp only [Option.some.injEq,Prod.mk.injEq] at ha';obtain ⟨rfl,rfl⟩:=ha';obtain ⟨vs,hvs,hfc⟩:=dO 0 (Nat.zero_le _);have eD:(Builtin.firstCells i.size 0 ux).run P w=.ok vs w:=hfc w.drawn;have hv0:vs= #[]:=by
          have:vs.size=0:=by rw [←hvs.1];simp
          exact Array.eq_empty_of_size_eq_zero this
         subst hv0;cases hd with
         | datn=>refine ⟨ρ,_,w,?_,⟨.int _ _,h,Ev.refl _ _ _ _ _ h.dom⟩,rfl,rfl⟩;simp [Builtin.copy_,run_underlying hu,cW,Zn hi,eD,goInt]
         | datz=>refine ⟨ρ,_,w,?_,⟨.int _ _,h,Ev.refl _ _ _ _ _ h.dom⟩,rfl,rfl⟩;simp [Builtin.copy_,run_underlying hu,cW,Zn hi,eD,goInt,storeCells]
         | dat=>refine ⟨ρ,_,w,?_,⟨.int _ _,h,Ev.refl _ _ _ _ _ h.dom⟩,rfl,rfl⟩;simp [Builtin.copy_,run_underlying hu,cW,Zn hi,eD,goInt,storeCells]
        ·rename_i b off len cap;split at ha
         ·rename_i blk hm;dsimp only at ha;cases hf:(Nat.ble floor b&&Nat.ble (off+(Nat.min m len)*i.size) blk.cells.length) with
          | false=>rw [hf] at ha;cases ha
          | true=>
           rw [hf,cond_true] at ha;simp only [Bool.and_eq_true] at hf;have hfl:=Nat.le_of_ble_eq_true hf.1;have dF:=Nat.le_of_ble_eq_true hf.2;simp only [Option.some.injEq,Prod.mk.injEq] at ha;obtain ⟨rfl,rfl⟩:=ha;cases hd with
           | sl _ _ _ _ l c hρ dB hlc=>
            have hmin:Nat.min m len≤m:=Nat.min_le_left _ _;have fE:Nat.min m len*i.size≤m*i.size:=Nat.mul_le_mul_right _ hmin;obtain ⟨vs,hvs,hfc⟩:=dO (Nat.min m len) hmin;have eD:(Builtin.firstCells i.size (Nat.min m len) ux).run P w=.ok vs w:=hfc w.drawn;have dR:=Yy.cells_oneCell hvs (List.all_eq_true.2 fun a ha=>List.all_eq_true.1 hsc a (List.mem_of_mem_take ha));have hvl:(src.take (Nat.min m len*i.size)).length =Nat.min m len*i.size:=by rw [List.length_take,hsl];omega
            obtain ⟨cur,el,hw,eT,cU⟩:=h.write hρ hm (off:=off) (cs:=src.take (Nat.min m len*i.size)) (vs:=vs.toList) (by simpa using hvs.1.symm) (by rw [hvl];exact dF) (fun j h1 h2=>by simpa using hvs.2 j h1 (by simpa using h2));have hst:=run_storeCells_at P l.blk (l.base+off) el vs.toList 0 cur w hw (by rw [Nat.add_zero];exact eT) dR;rw [Nat.add_zero] at hst;refine ⟨ρ,.int .i64 (Nat.min m len),w.setRow l.blk (cur.toList.take (l.base+off)++vs.toList++cur.toList.drop (l.base+off+vs.toList.length)).toArray,?_,⟨.int _ _,?_,Ev.ofWrite h hρ hfl _ _⟩,rfl,rfl⟩
            ·simp [Builtin.copy_,run_underlying hu,cW,Zn hi,eD,goInt,hst,-Array.length_toList,-List.append_assoc]
            ·rw [hvl] at cU
             simpa only [St.withMem] using cU
         ·cases ha
        ·cases ha
      ·cases ha
     ·cases ha
    ·cases ha
 ·cases ha
theorem v0k {mem:Mem} {next:Nat} {w:World} (h:Rel ρ mem next w) {n sz:Nat} {g:Nat→List AVal} {ux:Value} (hx:Yy ρ (.dat n g) ux) (hg: ∀i,i<n→(g i).length =sz) (hsz:1≤sz) {m:Nat} (hm:m≤n):
  (∀w,(Builtin.lenOf ux).run P w=.ok n w)∧ ∃vs:Array Value,Vk ρ (rows m g) vs∧ ∀d,(Builtin.firstCells sz m ux).run P {w with drawn:=d}=.ok vs {w with drawn:=d}:=by
 cases hx with
 | datn=>
  obtain rfl:m=0:=by omega
  exact ⟨fun w=>by simp [Builtin.lenOf], #[],⟨by simp [rows],fun i h1 h2=>by simp [rows] at h1⟩,fun d=>by simp [Builtin.firstCells]⟩
 | datz=>
  obtain rfl:m=0:=by omega
  exact ⟨fun w=>by simp [Builtin.lenOf], #[],⟨by simp [rows],fun i h1 h2=>by simp [rows] at h1⟩,fun d=>by simp [Builtin.firstCells,loadCells,loadCellsFrom]⟩
 | dat _ _ blk base sz' cap val dB eU hv hh=>
  refine ⟨fun w=>by simp [Builtin.lenOf],?_⟩;have hg': ∀i,i<m→(g i).length =sz:=fun i hi=>hg i (by omega);have hl:=Yj m hg';have hdiv: ∀k,k<m*sz→k / sz<m∧k %sz<sz∧k / sz*sz+k %sz=k:=fun k hk=>
   ⟨Nat.div_lt_of_lt_mul (by rw [Nat.mul_comm];exact hk),Nat.mod_lt _ hsz,by rw [Nat.mul_comm];exact Nat.div_add_mod k sz⟩
  have dV: ∀(d k:Nat),k<m*sz→({w with drawn:=d}:World).cell? ((⟨blk,base,none⟩:Addr).add k)=some (val (k / sz) (k %sz)):=by
   intro d k hk;obtain ⟨hq,hj,e4⟩:=hdiv k hk;have hs:sz'=sz:=by rw [←eU (k / sz) (by omega),hg' _ hq]
   obtain ⟨cs,el,fz,e1,e2⟩:=hh (k / sz) (k %sz) (by omega) (by omega);have e3:=h.old _ _ e1;rw [hs,e4] at e2;rw [Xp];simp only [World.cell?,e3];exact e2
  refine ⟨_,⟨?_,?_⟩,fun d=>by simp only [Builtin.firstCells];exact run_loadCells _ _ _ (fun k=>val (k / sz) (k %sz)) (dV d)⟩
  ·simp [hl]
  ·intro k h1 h2;obtain ⟨hq,hj,e4⟩:=hdiv k (by rw [←hl];exact h1);have hj':k %sz<(g (k / sz)).length :=by rw [hg' _ hq];exact hj
   have hr:=Wn m hg' (k / sz) (k %sz) hq hj;rw [e4,List.getElem?_eq_getElem h1,List.getElem?_eq_getElem hj'] at hr;rw [Option.some.inj hr]
   simpa using (hv (k / sz) (k %sz) (by omega) hj').mono (x0a ρ)
theorem x1b {g:Nat→List AVal} {sz n m:Nat} (hg: ∀i,i<n→(g i).length =sz) (hm:m≤n):(rows n g).take (m*sz)=rows m g:=by have:=z3a (off:=0) (len:=m) hg (by omega);simp only [Nat.zero_mul,List.drop_zero,Nat.zero_add] at this;exact this.symm
theorem w6o {get g:Nat→List AVal} {sz N off n:Nat} (hl: ∀i,i<N→(get i).length =sz) (hg: ∀i,i<n→(g i).length =sz) (h:off+n≤N):
  (∀i,i<N→(Ue get off n g i).length =sz)∧rows N (Ue get off n g)=(rows N get).take (off*sz)++rows n g++(rows N get).drop (off*sz+n*sz):=by
 have h1: ∀i,i<N→(Ue get off n g i).length =sz:=fun i hi=>by
  unfold Ue;cases e:(Nat.ble off i&&Nat.ble (i+1) (off+n)) with
  | true=>simp only [Bool.and_eq_true] at e;have e1:=Nat.le_of_ble_eq_true e.1;have e2:=Nat.le_of_ble_eq_true e.2;simp only [cond_true];exact hg _ (by omega)
  | false=>exact hl _ hi
 refine ⟨h1,?_⟩;obtain ⟨r,rfl⟩: ∃r,N=off+(n+r):=⟨N - off - n,by omega⟩
 have e2:off*sz+n*sz=(off+n)*sz:=(Nat.add_mul _ _ _).symm;rw [x1b hl (by omega),e2];have e3:(rows (off+(n+r)) get).drop ((off+n)*sz)=rows r fun k=>get (off+n+k):=by rw [z3a (off:=off+n) (len:=r) hl (by omega)];rw [List.take_of_length_le];have:=Yj _ hl;rw [List.length_drop,this,←Nat.sub_mul,show off+(n+r) - (off+n)=r by omega];exact Nat.le_refl _
 rw [e3];unfold rows;rw [List.range_add,List.range_add,List.flatMap_append,List.map_append,List.flatMap_append,←List.append_assoc]
 congr 1
 ·congr 1
  ·refine Jg fun i hi=> ?_;have:=List.mem_range.1 hi;unfold Ue;rw [show Nat.ble off i=false from Bool.eq_false_iff.2 fun e=>by have:=Nat.le_of_ble_eq_true e;omega];rfl
  ·rw [List.flatMap_map];refine Jg fun i hi=> ?_;have:=List.mem_range.1 hi;unfold Ue;rw [Nat.ble_eq_true_of_le (show off≤off+i by omega),Nat.ble_eq_true_of_le (show off+i+1≤off+n by omega),Nat.add_sub_cancel_left];rfl
 ·rw [List.map_map,List.flatMap_map];refine Jg fun i hi=> ?_;unfold Ue;show (bif Nat.ble off (off+(n+i))&&Nat.ble (off+(n+i)+1) (off+n) then _ else _)=_;rw [show Nat.ble (off+(n+i)+1) (off+n)=false from Bool.eq_false_iff.2 fun e=>by have:=Nat.le_of_ble_eq_true e;omega,Bool.and_false,cond_false];show get (off+(n+i))=get (off+n+i);rw [Nat.add_assoc]
theorem y9v {mem:Mem} {next:Nat} {w:World} (h:Rel ρ mem next w) {sz:Nat} (hsz:1≤sz) {x:AVal} {ux:Value} {m:Nat} {g:Nat→List AVal} {o:Bool} (hc:x7p mem sz x=some (m,g,o)) (ho:o=true) (hx:Yy ρ x ux):
  (∀k,k<m→(g k).length =sz∧(g k).all z8l=true)∧ ∀n,n≤m→(∀w,(Builtin.lenOf ux).run P w=.ok m w)∧ ∃vs:Array Value,Vk ρ (rows n g) vs∧ ∀d,(Builtin.firstCells sz n ux).run P {w with drawn:=d}=.ok vs {w with drawn:=d}:=by
 subst ho;have part: ∀(b z off len c:Nat) (l:Loc) (blk:ABlk) (A:Arr),ρ b=some l→Yd mem b=some blk→blk.arr=some A→len≤c→(Nat.beq z sz&&(Nat.beq A.sz sz&&(decide (off+len≤A.n)&&pd (∀i,i<len→(A.get (off+i)).length =sz∧(A.get (off+i)).all z8l=true))))=true→
   (∀k,k<len→(A.get (off+k)).length =sz∧(A.get (off+k)).all z8l=true)∧ ∀n,n≤len→(∀w,(Builtin.lenOf (.slice (some ⟨l.blk,l.base+off*z,none⟩) len c)).run P w=.ok len w)∧ ∃vs:Array Value,Vk ρ (rows n fun k=>A.get (off+k)) vs∧ ∀d,(Builtin.firstCells sz n (.slice (some ⟨l.blk,l.base+off*z,none⟩) len c)).run P {w with drawn:=d}=.ok vs {w with drawn:=d}:=by
  intro b z off len c l blk A hρ hm hA cW ho;simp only [Bool.and_eq_true,decide_eq_true_eq] at ho;obtain ⟨k1,k2,k3,k4⟩:=ho;obtain rfl:=Nat.eq_of_beq_eq_true k1;have k2:=Nat.eq_of_beq_eq_true k2;have k4:= @of_decide_eq_true _ (Classical.propDecidable _) k4;refine ⟨k4,fun n hn=> ?_⟩;obtain ⟨dS,eY,dJ⟩:=(h.blk b l blk hρ hm).arr A hA;rw [k2] at dJ;have hlr:=Yj A.n dJ;have hm2:(off+len)*z≤A.n*z:=Nat.mul_le_mul_right _ k3;rw [Nat.add_mul] at hm2;have hpl:=z3a dJ k3;have hL:(rows len fun k=>A.get (off+k)).length =len*z:=Yj len fun i hi=>(k4 i hi).1;have hcs:Yt mem z (.sl b (off*z) len (.ex c))=some (len,rows len fun k=>A.get (off+k)):=by simp only [Yt,hm];unfold cut;simp only;rw [dS,←hpl,show Nat.beq (rows len fun k=>A.get (off+k)).length (len*z)=true from by rw [hL,Nat.beq_refl]];rfl
  obtain ⟨q1,q2⟩:=Vz (P:=P) h hcs (.sl b (off*z) len (.ex c) l c hρ rfl cW) hL;obtain ⟨vs,v1,v2⟩:=q2 n hn;rw [x1b (fun i hi=>(k4 i hi).1) hn] at v1;exact ⟨q1,vs,v1,v2⟩
 have none0: ∀(g:Nat→List AVal) (n:Nat) (p:Option Addr) (c:Nat),n≤0→(∀w,(Builtin.lenOf (.slice p 0 c)).run P w=.ok 0 w)∧ ∃vs:Array Value,Vk ρ (rows n g) vs∧ ∀d,(Builtin.firstCells sz n (.slice p 0 c)).run P {w with drawn:=d}=.ok vs {w with drawn:=d}:=by
  intro g n p c hn;obtain rfl:n=0:=by omega
  cases p with
  | none=>exact ⟨fun w=>by simp [Builtin.lenOf], #[],⟨by simp [rows],fun i h1 h2=>by simp [rows] at h1⟩,fun d=>by simp [Builtin.firstCells]⟩
  | some a=>refine ⟨fun w=>by simp [Builtin.lenOf],_,⟨?_,fun i h1 h2=>by simp [rows] at h1⟩,fun d=>by simp only [Builtin.firstCells];exact run_loadCells _ _ _ (fun _=>undef) fun k hk=>by rw [Nat.zero_mul] at hk;exact absurd hk (Nat.not_lt_zero _)⟩;simp [rows]
 unfold x7p at hc;split at hc
 ·simp only [Option.some.injEq,Prod.mk.injEq] at hc;obtain ⟨rfl,rfl,_⟩:=hc;cases hx;exact ⟨fun k hk=>absurd hk (Nat.not_lt_zero _),fun n hn=>none0 _ n none 0 hn⟩
 ·rename_i n' g';simp only [Option.some.injEq,Prod.mk.injEq] at hc;obtain ⟨rfl,rfl,h0⟩:=hc;have hp:= @of_decide_eq_true _ (Classical.propDecidable _) h0;exact ⟨hp,fun n hn=>v0k (P:=P) h hx (fun i hi=>(hp i hi).1) hsz hn⟩
 ·split at hc
  ·rename_i blk hm;split at hc
   ·rename_i A hA;simp only [Option.some.injEq,Prod.mk.injEq] at hc;obtain ⟨rfl,rfl,h0⟩:=hc;cases hx with
    | sla _ _ _ _ _ l c hρ dB cW=>exact part _ _ _ _ _ l _ _ hρ hm hA cW h0
    | slan=>exact ⟨fun k hk=>absurd hk (Nat.not_lt_zero _),fun n hn=>none0 _ n none 0 hn⟩
   ·cases hc
  ·cases hc
 ·split at hc
  ·rename_i blk hm;split at hc
   ·rename_i A hA;simp only [Option.some.injEq,Prod.mk.injEq] at hc;obtain ⟨rfl,rfl,h0⟩:=hc;cases hx with
    | slv _ _ _ _ l c hρ cW=>exact part _ _ _ _ _ l _ _ hρ hm hA cW h0
    | slve=>exact ⟨fun k hk=>absurd hk (Nat.not_lt_zero _),fun n hn=>none0 _ n _ _ hn⟩
    | slvn=>exact ⟨fun k hk=>absurd hk (Nat.not_lt_zero _),fun n hn=>none0 _ n none 0 hn⟩
   ·cases hc
  ·cases hc
 ·cases hc
theorem Rel.reblk {mem:Mem} {next:Nat} {w:World} (h:Rel ρ mem next w) {b:Nat} {blk blk':ABlk} (hm:Yd mem b=some blk) (hb: ∀l,ρ b=some l→Vt ρ w blk l→Vt ρ w blk' l):Rel ρ (Xi mem b (some blk')) next w:=by
 have iff: ∀c,(Yd (Xi mem b (some blk')) c).isSome =true→(Yd mem c).isSome =true:=fun c hc=>by
  rw [Wt] at hc;by_cases e:c=b
  ·rw [e,hm];rfl
  ·rwa [if_neg e] at hc
 have hlt:b<next:=by
  rcases Nat.lt_or_ge b next with q | q
  ·exact q
  ·rw [h.bd b q] at hm;cases hm
 refine ⟨h.dom,fun c c' m m' e e' he hs hs'=>h.inj c c' m m' e e' he (iff c hs) (iff c' hs'),fun c m ac e hc=> ?_,h.old,fun c m e hs=>h.sep c m e (iff c hs),h.real,fun c hc=> ?_,h.ldom⟩
 ·rw [Wt] at hc;by_cases ec:c=b
  ·subst ec;rw [if_pos rfl] at hc;obtain rfl:=Option.some.inj hc;exact hb m e (h.blk c m blk e hm)
  ·rw [if_neg ec] at hc;exact h.blk c m ac e hc
 ·rw [Zw _ _ (by omega)];exact h.bd c hc
theorem Ev.put {mem:Mem} {next:Nat} {w:World} (h:Rel ρ mem next w) (floor:Nat) {b:Nat} {blk:ABlk} {A:Arr} (hm:Yd mem b=some blk) (hA:blk.arr=some A) (o:Option ABlk):Ev ρ ρ floor mem next (Xi mem b o) next w w where
 ext:=Rho.le_refl _
 new _ _:=rfl
 nxt:=Nat.le_refl _
 unborn k _ e cs ty hk:=by
  by_cases hkb:k=b
  ·subst hkb;rw [hm] at hk;cases hk;cases hA
  ·rw [Zw _ _ hkb];exact hk
 frame _ _ hk _:=hk
 fresh k m hk e:=by have:=h.dom k m e;omega
 size:=Nat.le_refl _
 os:=rfl
 tape:=rfl
 output:=rfl
 still _ _:=rfl
theorem z9x {cx:Ctx} {st st':St} {w:World} (h:Rel ρ st.mem st.next w) {ts:Array TypeId} {type:TypeId} {us:Array Value} {b sz off len:Nat} {d x:AVal} {xs:List AVal} {v:AVal} (ha:z9y P cx st ts.toList b sz off len x=some (v,st')) (hob:st'.ob=true) (hx:Ws (Yy ρ) (d::x::xs) us.toList)
  (hd: ∀u,Yy ρ d u→(∃l c,ρ b=some l∧len≤c∧u=.slice (some ⟨l.blk,l.base+off*sz,none⟩) len c)∨(len=0∧ ∃p c,u=.slice p 0 c)):
  ∃ρ' u w',(Builtin.copy_ ts type us).run P w=.ok u w'∧x0p ρ cx.floor st st' v w ρ' u w':=by
 obtain ⟨ts⟩:=ts;obtain ⟨us⟩:=us;simp only at ha hx;unfold z9y at ha;split at ha
 ·rename_i t _;cases hx with
  | @cons _ ud _ _ hd0 hx=>
   cases hx with
   | @cons _ ux _ uxs hx _=>
    split at ha
    ·rename_i e hu;split at ha
     ·rename_i i blk hi hm;split at ha
      ·rename_i A m g o hA hcs;obtain ⟨dT,ha⟩:=Qy ha;simp only [Bool.and_eq_true] at dT;have hfl:=Nat.le_of_ble_eq_true dT.1;have hsz:=Nat.le_of_ble_eq_true dT.2;simp only [Option.map_eq_some_iff,Prod.mk.injEq] at ha;obtain ⟨st1,ho,rfl,rfl⟩:=ha;obtain ⟨_,m2,n2,o4⟩:=z6s ho;obtain ⟨hb,_⟩:=o4 hob;simp only [Bool.and_eq_true,decide_eq_true_eq] at hb;obtain ⟨k1,k2,k3,k4⟩:=hb;obtain rfl:=Nat.eq_of_beq_eq_true k1;have k2:=Nat.eq_of_beq_eq_true k2;have m2:st1.mem=Xi st.mem b (some ⟨rows A.n (Ue A.get off (Nat.min m len) g),blk.ty,some ⟨A.sz,A.n,Ue A.get off (Nat.min m len) g⟩⟩):=m2;have n2:st1.next=st.next:=n2
       obtain ⟨hg,dO⟩:=y9v (P:=P) h hsz hcs k4 hx;have hmin:Nat.min m len≤m:=Nat.min_le_left _ _;have hmin2:Nat.min m len≤len:=Nat.min_le_right _ _;obtain ⟨cW,vs,hvs,hfc⟩:=dO (Nat.min m len) hmin;have eD:(Builtin.firstCells i.size (Nat.min m len) ux).run P w=.ok vs w:=hfc w.drawn;have hgl: ∀k,k<Nat.min m len→(g k).length =i.size:=fun k hk=>(hg k (by omega)).1;have hrl:=Yj (Nat.min m len) hgl;have dR:=Yy.cells_oneCell hvs (y0y _ fun k hk=>(hg k (by omega)).2);have hbn:b<st.next:=by
        rcases Nat.lt_or_ge b st.next with q | q
        ·exact q
        ·rw [h.bd b q] at hm;cases hm
       have nothing:Nat.min m len=0→Rel ρ st1.mem st1.next w∧Ev ρ ρ cx.floor st.mem st.next st1.mem st1.next w w:=fun e0=>by
        rw [m2,n2,e0];have same: ∀k,Ue A.get off 0 g k=A.get k:=fun k=>by
         unfold Ue;cases e:(Nat.ble off k&&Nat.ble (k+1) (off+0)) with
         | true=>simp only [Bool.and_eq_true] at e;have e1:=Nat.le_of_ble_eq_true e.1;have e2:=Nat.le_of_ble_eq_true e.2;omega
         | false=>rfl
        have same:Ue A.get off 0 g=A.get:=funext same;rw [same];refine ⟨?_,Ev.put h cx.floor hm hA _⟩;refine h.reblk hm fun l hρ hbk=> ?_;obtain ⟨dS,eY,dJ⟩:=hbk.arr A hA;refine ⟨by rw [hbk.n,dS],hbk.tot,fun B hB=> ?_,?_⟩
        ·obtain rfl:=Option.some.inj hB;exact ⟨rfl,eY,dJ⟩
        ·have:=hbk.cells;rw [dS] at this;exact this
       rcases hd ud hd0 with ⟨l,c,hρ,hlc,rfl⟩ | ⟨rfl,p,c,rfl⟩
       ·obtain ⟨dS,eY,dJ⟩:=(h.blk b l blk hρ hm).arr A hA;rw [k2] at dJ;have hlr:=Yj A.n dJ;have hfitN:off+Nat.min m len≤A.n:=(by omega);obtain ⟨c1,c2⟩:=w6o dJ hgl hfitN;have hm3:(off+Nat.min m len)*i.size≤A.n*i.size:=Nat.mul_le_mul_right _ hfitN;rw [Nat.add_mul] at hm3;obtain ⟨cur,el,hw,eT,cU⟩:=h.write hρ hm (off:=off*i.size) (cs:=rows (Nat.min m len) g) (vs:=vs.toList) (by simpa using hvs.1.symm) (by rw [hrl,dS,hlr];exact hm3) (fun j h1 h2=>by simpa using hvs.2 j h1 (by simpa using h2));have hst:=run_storeCells_at P l.blk (l.base+off*i.size) el vs.toList 0 cur w hw (by rw [Nat.add_zero];exact eT) dR;rw [Nat.add_zero] at hst;rw [hrl,dS,←c2] at cU;refine ⟨ρ,.int .i64 (Nat.min m len:Nat),w.setRow l.blk (cur.toList.take (l.base+off*i.size)++vs.toList++cur.toList.drop (l.base+off*i.size+vs.toList.length)).toArray,?_,.int _ _,?_,?_⟩
        ·have hl2:=cW w;simp [Builtin.copy_,run_underlying hu,cW,Zn hi,eD,goInt,hst,-Array.length_toList,-List.append_assoc]
        ·rw [m2,n2];have:=cU.setArr ⟨A.sz,A.n,.flat (Ue A.get off (Nat.min m len) g)⟩ rfl eY (by rw [k2];exact c1);exact this
        ·rw [m2,n2];exact Ev.ofWrite h hρ hfl _ _
       ·have e0:Nat.min m 0=0:=Nat.min_zero m;obtain ⟨n1,n3⟩:=nothing e0;refine ⟨ρ,.int .i64 (Nat.min m 0:Nat),w,?_,.int _ _,n1,n3⟩;rw [e0] at eD hvs;have hv0:vs= #[]:=by
         have:vs.size=0:=by rw [←hvs.1];simp [rows]
         exact Array.eq_empty_of_size_eq_zero this
        subst hv0;cases p with
        | none=>simp [Builtin.copy_,run_underlying hu,cW,Zn hi,eD,goInt]
        | some a=>simp [Builtin.copy_,run_underlying hu,cW,Zn hi,eD,goInt,storeCells]
      ·cases ha
     ·cases ha
    ·cases ha
 ·cases ha
theorem x3e {st st':St} {w:World} (h:Rel ρ st.mem st.next w) (floor:Nat) {ts:Array TypeId} {type:TypeId} {xs:List AVal} {us:Array Value} {v:AVal} (ha:y4s P floor st ts.toList xs=some (v,st')) (hx:Ws (Yy ρ) xs us.toList):
  ∃ρ' u w',(Builtin.clear_ ts type us).run P w=.ok u w'∧x0p ρ floor st st' v w ρ' u w'∧st'.env=st.env∧st'.ob=st.ob:=by
 obtain ⟨ts⟩:=ts;obtain ⟨us⟩:=us;simp only at ha hx;unfold y4s at ha;have unit:Yy ρ (.tup []) (.tuple #[]):=.tup [] #[] rfl fun i h1 _=>by simp at h1
 split at ha
 ·rename_i t _ d _;cases hx with
  | @cons _ ud _ _ hd _=>
   split at ha
   ·rename_i e hu;split at ha
    ·rename_i i zero hi hz;obtain ⟨i2,z,hi2,_,hzr,hzv⟩:=Wv (ρ:=ρ) hz;split at ha
     ·cases hd;simp only [Option.some.injEq,Prod.mk.injEq] at ha;obtain ⟨rfl,rfl⟩:=ha;exact ⟨ρ,.tuple #[],w,by simp [Builtin.clear_,run_underlying hu],⟨unit,h,Ev.refl _ _ _ _ _ h.dom⟩,rfl,rfl⟩
     ·rename_i b off len cap;cases hd with
      | sl _ _ _ _ l c hρ dB hlc=>
       rcases (by cases hl0:Nat.beq len 0 with
         | true=>rw [hl0] at ha;exact .inl ⟨rfl,ha⟩
         | false=>rw [hl0] at ha;exact .inr ⟨rfl,ha⟩:(Nat.beq len 0=true∧_)∨(Nat.beq len 0=false∧_)) with ⟨hl0,ha⟩ | ⟨hl0,ha⟩
       ·have hl0:=Nat.eq_of_beq_eq_true hl0;subst hl0;simp only [cond_true,Option.some.injEq,Prod.mk.injEq] at ha;obtain ⟨rfl,rfl⟩:=ha;exact ⟨ρ,.tuple #[],w,by simp [Builtin.clear_,run_underlying hu],⟨unit,h,Ev.refl _ _ _ _ _ h.dom⟩,rfl,rfl⟩
       ·obtain ⟨hc,ha⟩:=Qy ha;simp only [Bool.and_eq_true] at hc;obtain ⟨⟨hzl,hzs⟩,hfl⟩:=hc;have hzl:=Nat.eq_of_beq_eq_true hzl;have hfl:=Nat.le_of_ble_eq_true hfl;split at ha
        ·rename_i blk hm;obtain ⟨dF,ha⟩:=Qy ha;have dF:=Nat.le_of_ble_eq_true dF;simp only [Option.some.injEq,Prod.mk.injEq] at ha;obtain ⟨rfl,rfl⟩:=ha;have hrl:(rep len zero).length =len*i.size:=(by rw [Qj,hzl]);have eA:Vk ρ (rep len zero) (Builtin.zeroCells z.cells len):=z8c hzr len (len*z.cells.size) (by rw [hzr.1]);have dR: ∀v∈(Builtin.zeroCells z.cells len).toList,v.oneCell'=true:=Yy.cells_oneCell eA (by
          refine List.all_eq_true.2 fun a ha=>List.all_eq_true.1 hzs a ?_;unfold rep at ha;obtain ⟨l,hl,hal⟩:=List.mem_flatten.1 ha;rw [(List.mem_replicate.1 hl).2] at hal;exact hal)
         obtain ⟨cur,el,hw,eT,cU⟩:=h.write hρ hm (off:=off) (cs:=rep len zero) (vs:=(Builtin.zeroCells z.cells len).toList) (by simpa using eA.1.symm) (by rw [hrl];exact dF) (fun j h1 h2=>by simpa using eA.2 j h1 (by simpa using h2));have hst:=run_storeCells_at P l.blk (l.base+off) el (Builtin.zeroCells z.cells len).toList 0 cur w hw (by rw [Nat.add_zero];exact eT) dR;rw [Nat.add_zero] at hst;have hne:len≠0:=fun e=>by rw [e] at hl0;cases hl0
         refine ⟨ρ,.tuple #[],w.setRow l.blk (cur.toList.take (l.base+off)++(Builtin.zeroCells z.cells len).toList ++cur.toList.drop (l.base+off+(Builtin.zeroCells z.cells len).toList.length)).toArray,?_,⟨unit,?_,Ev.ofWrite h hρ hfl _ _⟩,rfl,rfl⟩
         ·obtain ⟨len',rfl⟩: ∃k,len=k+1:=⟨len - 1,by omega⟩
          simp [Builtin.clear_,run_underlying hu,hzv,hst,-Array.length_toList,-List.append_assoc]
         ·rw [hrl] at cU
          simpa only [St.withMem] using cU
        ·cases ha
     ·cases ha
    ·cases ha
   ·cases ha
 ·cases ha
end
end Go.Am
namespace Go.Am
section
variable {P:Program} {ρ:Rho}
structure Xm (floor:Nat) (st st':St):Prop where
 nxt:st.next≤st'.next
 bd:(∀b,st.next≤b→Yd st.mem b=none)→ ∀b,st'.next≤b→Yd st'.mem b=none
 low:floor≤st.next→ ∀b,b<floor→Yd st'.mem b=Yd st.mem b
 ob:st'.ob=true→st.ob=true
theorem Xm.refl (floor:Nat) (st:St):Xm floor st st:=⟨Nat.le_refl _,fun h=>h,fun _ _ _=>rfl,fun h=>h⟩
theorem Xm.trans {floor:Nat} {a b c:St} (h:Xm floor a b) (k:Xm floor b c):Xm floor a c:=
 ⟨Nat.le_trans h.nxt k.nxt,fun x=>k.bd (h.bd x),fun x d hd=>(k.low (Nat.le_trans x h.nxt) d hd).trans (h.low x d hd),fun x=>h.ob (k.ob x)⟩
theorem Xm.env {floor:Nat} {a b:St} (h:Xm floor a b) (e e':T AVal):Xm floor (a.withEnv e) (b.withEnv e'):=⟨h.nxt,h.bd,h.low,h.ob⟩
theorem Xm.write {floor:Nat} (st:St) {b:Nat} {ab:ABlk} (o:Option ABlk) (hf:floor≤b) (hm:Yd st.mem b=some ab):Xm floor st (st.withMem (Xi st.mem b o)) where
 nxt:=Nat.le_refl _
 bd h k hk:=by
  have hne:k≠b:=fun e=>by rw [e,] at hk;rw [h b hk] at hm;cases hm
  show Yd (Xi st.mem b o) k=none;rw [Zw _ _ hne];exact h k hk
 low _ k hk:=Zw _ _ (by omega)
 ob h:=h
theorem Xm.new {floor:Nat} (st:St) (cs:List AVal) (ty:TypeId):Xm floor st (z8w st cs ty) where
 nxt:=Nat.le_succ _
 bd h k hk:=by
  have hk':st.next+1≤k:=hk
  show Yd (Xi st.mem st.next _) k=none;rw [Zw _ _ (by omega)];exact h k (by omega)
 low hf k hk:=Zw _ _ (by omega)
 ob h:=h
def x3p (R:Runner):Prop:= ∀cx todo st st',R cx todo st=some st'→Xm cx.floor st st'
theorem Xc {cx:Ctx} {st st':St} {b:Bool} (h:st.owe cx b=some st'):st'.env=st.env∧st'.mem=st.mem∧st'.next=st.next∧(st'.ob=true→b=true∧st.ob=true):=by
 obtain ⟨env,mem,next,orc,ob⟩:=st;unfold St.owe at h;dsimp only at h;cases hs:cx.sym with
 | true=>rw [hs,cond_true] at h;obtain rfl:=Option.some.inj h;exact ⟨rfl,rfl,rfl,fun h=>by simp only [Bool.and_eq_true] at h;exact ⟨h.1,h.2⟩⟩
 | false=>
  rw [hs,cond_false] at h;cases b with
  | false=>cases h
  | true=>obtain rfl:=Option.some.inj h;exact ⟨rfl,rfl,rfl,fun h=>⟨rfl,h⟩⟩
theorem y2b {st st':St} {b e:Bool} (h:st.test b=(e,st')):st'.env=st.env∧st'.mem=st.mem∧st'.next=st.next∧(st'.ob=true→e=b∧st.ob=true):=by
 obtain ⟨env,mem,next,orc,ob⟩:=st;cases orc with
 | nil=>simp only [St.test,Prod.mk.injEq] at h;obtain ⟨rfl,rfl⟩:=h;exact ⟨rfl,rfl,rfl,fun h=>⟨rfl,h⟩⟩
 | cons c r=>simp only [St.test,Prod.mk.injEq] at h;obtain ⟨rfl,rfl⟩:=h;refine ⟨rfl,rfl,rfl,fun h=> ?_⟩;simp only [Bool.and_eq_true,beq_iff_eq] at h;exact ⟨h.1.symm,h.2⟩
theorem Wb {cx:Ctx} {st st':St} {dst:Option Tmp} {v:AVal} (h:st.put cx dst v=some st'):st'.mem=st.mem∧st'.next=st.next∧st'.ob=st.ob∧
  ((dst=none∧st'.env=st.env)∨ ∃d,dst=some d∧d<cx.n∧st'.env=T.set .undef st.env d v):=by
 obtain ⟨env,mem,next,orc,ob⟩:=st;cases dst with
 | none=>simp only [St.put,Option.some.injEq] at h;subst h;exact ⟨rfl,rfl,rfl,.inl ⟨rfl,rfl⟩⟩
 | some d=>
  simp only [St.put] at h;cases hb:Nat.ble (d+1) cx.n with
  | false=>rw [hb] at h;cases h
  | true=>rw [hb,cond_true] at h;obtain rfl:=Option.some.inj h;exact ⟨rfl,rfl,rfl,.inr ⟨d,rfl,Nat.le_of_ble_eq_true hb,rfl⟩⟩
theorem Xm.same {floor:Nat} {st st':St} (hm:st'.mem=st.mem) (hn:st'.next=st.next) (ho:st'.ob=true→st.ob=true):Xm floor st st':=
 ⟨by rw [hn];exact Nat.le_refl _,fun h b hb=>by rw [hm];exact h b (by rw [←hn];exact hb),fun _ b _=>by rw [hm],ho⟩
theorem Zo {α:Type} {c:Bool} {x:Option α} {y:α} (h:(bif c then x else none)=some y):c=true∧x=some y:=by
 cases c with
 | false=>cases h
 | true=>exact ⟨rfl,h⟩
theorem Uf {α:Type} {c:Bool} {x z:Option α} {y:α} (h:(bif c then x else z)=some y):(c=true∧x=some y)∨(c=false∧z=some y):=by
 cases c with
 | false=>exact .inr ⟨rfl,h⟩
 | true=>exact .inl ⟨rfl,h⟩
theorem w4l {floor:Nat} {st st':St} {t:TypeId} {x v:AVal} (h:y4l P floor st t x v=some st'):Xm floor st st'∧st'.env=st.env:=by
 unfold y4l at h;split at h
 ·obtain ⟨hc,h⟩:=Zo h;simp only [Bool.and_eq_true] at hc;split at h
  ·rename_i blk hm;obtain ⟨_,h⟩:=Zo h;obtain rfl:=Option.some.inj h;exact ⟨Xm.write st _ (Nat.le_of_ble_eq_true hc.1.1.1) hm,rfl⟩
  ·cases h
 ·cases h
theorem x8c {cx:Ctx} {st st':St} {t:TypeId} {x v:AVal} (h:z5y P cx st t x v=some st'):Xm cx.floor st st'∧st'.env=st.env:=by
 unfold z5y at h;split at h
 ·obtain ⟨hc,h⟩:=Zo h;simp only [Bool.and_eq_true] at hc;split at h
  ·rename_i blk hm;split at h
   ·split at h
    ·rename_i rw1 st1 eG;obtain ⟨s1,s2,s3,s4⟩:=z5a eG;obtain ⟨o1,o2,o3,o4⟩:=Xc h;have a1:Xm cx.floor st st1:=Xm.same s2 s3 fun x=>(s4 x).2;exact ⟨(a1.trans (Xm.write st1 _ (Nat.le_of_ble_eq_true hc.1.1.1.1) (by rw [s2];exact hm))).trans (Xm.same o2 o3 fun x=>(o4 x).2),o1.trans s1⟩
    ·cases h
   ·cases h
  ·cases h
 ·cases h
theorem y4u {st st':St} {t:TypeId} {len:Nat} {ps:List (Nat×AVal)} {v:AVal} {un:Bool} (floor:Nat) (h:Jj P un st t len ps=some (v,st')):Xm floor st st'∧st'.env=st.env:=by
 unfold Jj at h;split at h
 ·split at h
  ·obtain ⟨_,h⟩:=Zo h;split at h
   ·simp only [Option.some.injEq,Prod.mk.injEq] at h;obtain ⟨_,rfl⟩:=h;exact ⟨Xm.new st _ _,rfl⟩
   ·cases h
  ·cases h
 ·cases h
theorem z4w {st st':St} {t:TypeId} {x y v:AVal} (floor:Nat) (h:Vi P st t x y=some (v,st')):Xm floor st st'∧st'.env=st.env:=by
 unfold Vi at h;split at h
 ·split at h
  ·obtain ⟨_,h⟩:=Zo h;simp only [Option.some.injEq,Prod.mk.injEq] at h;obtain ⟨_,rfl⟩:=h;exact ⟨Xm.new st _ _,rfl⟩
  ·cases h
 ·cases h
theorem x8k {floor:Nat} {st st':St} {ts:List TypeId} {xs:List AVal} {v:AVal} (h:Qe P floor st ts xs=some (v,st')):Xm floor st st'∧st'.env=st.env:=by
 unfold Qe at h;split at h
 ·split at h
  ·split at h
   ·split at h
    ·obtain ⟨_,h⟩:=Zo h;split at h
     ·rcases Uf h with ⟨_,h⟩ | ⟨_,h⟩
      ·simp only [Option.some.injEq,Prod.mk.injEq] at h;obtain ⟨_,rfl⟩:=h;exact ⟨Xm.refl _ _,rfl⟩
      ·obtain ⟨_,h⟩:=Zo h;simp only [Option.some.injEq,Prod.mk.injEq] at h;obtain ⟨_,rfl⟩:=h;exact ⟨Xm.new st _ _,rfl⟩
     ·split at h
      ·rename_i blk hm;split at h
       ·obtain ⟨_,h⟩:=Zo h;split at h
        ·rcases Uf h with ⟨_,h⟩ | ⟨_,h⟩
         ·obtain ⟨hc,h⟩:=Zo h;simp only [Bool.and_eq_true] at hc;simp only [Option.some.injEq,Prod.mk.injEq] at h;obtain ⟨_,rfl⟩:=h;exact ⟨Xm.write st _ (Nat.le_of_ble_eq_true hc.1) hm,rfl⟩
         ·simp only [Option.some.injEq,Prod.mk.injEq] at h;obtain ⟨_,rfl⟩:=h;exact ⟨Xm.new st _ _,rfl⟩
        ·obtain ⟨hc,h⟩:=Zo h;simp only [Bool.and_eq_true] at hc;have hf:=Nat.le_of_ble_eq_true hc.2;rcases Uf h with ⟨_,h⟩ | ⟨_,h⟩
         ·simp only [Option.some.injEq,Prod.mk.injEq] at h;obtain ⟨_,rfl⟩:=h;exact ⟨Xm.write st _ hf hm,rfl⟩
         ·obtain ⟨_,h⟩:=Zo h;simp only [Option.some.injEq,Prod.mk.injEq] at h;obtain ⟨_,rfl⟩:=h;exact ⟨(Xm.write st none hf hm).trans (Xm.new _ _ _),rfl⟩
       ·cases h
      ·cases h
     ·cases h
    ·cases h
   ·cases h
  ·cases h
 ·cases h
theorem Xm.put {floor:Nat} (st:St) (cs:Option ABlk) {st':St} (hm:st'.mem=Xi st.mem st.next cs) (hn:st'.next=st.next+1) (ho:st'.ob=true→st.ob=true):Xm floor st st' where
 nxt:=by rw [hn];exact Nat.le_succ _
 bd h k hk:=by rw [hn] at hk;rw [hm,Zw _ _ (by omega)];exact h k (by omega)
 low hf k hk:=by rw [hm];exact Zw _ _ (by omega)
 ob:=ho
theorem y4n {cx:Ctx} {st st':St} {t:TypeId} {x y v:AVal} (h:Ju P cx st t x y=some (v,st')):Xm cx.floor st st'∧st'.env=st.env:=by
 unfold Ju at h;split at h
 ·split at h
  ·obtain ⟨_,h⟩:=Zo h;simp only [Option.map_eq_some_iff,Prod.mk.injEq] at h;obtain ⟨_,h1,_,rfl⟩:=h;obtain ⟨o1,o2,o3,o4⟩:=Xc h1;exact ⟨Xm.put st _ o2 (o3.trans rfl) fun x=>(o4 x).2,o1⟩
  ·cases h
 ·cases h
theorem x3i {cx:Ctx} {st st':St} {ts:List TypeId} {xs:List AVal} {v:AVal} (h:z2k P cx st ts xs=some (v,st')):Xm cx.floor st st'∧st'.env=st.env:=by
 unfold z2k at h;split at h
 ·split at h
  ·split at h
   ·cases h
   ·split at h
    ·split at h
     ·rename_i hm;split at h
      ·obtain ⟨hc,h⟩:=Zo h;simp only [Bool.and_eq_true] at hc;simp only [Option.map_eq_some_iff,Prod.mk.injEq] at h;obtain ⟨_,h1,_,rfl⟩:=h;obtain ⟨o1,o2,o3,o4⟩:=Xc h1;exact ⟨(Xm.write st none (Nat.le_of_ble_eq_true hc.1.2) hm).trans (Xm.put (st.withMem _) _ o2 (o3.trans rfl) fun x=>(o4 x).2),o1⟩
      ·cases h
     ·cases h
    ·cases h
  ·cases h
 ·cases h
theorem v5f {floor:Nat} {st:St} {sz len:Nat} {x:AVal} {b:Option Nat} {get:Nat→List AVal} {o:Bool} (ht:z3x st.mem sz x=some (b,len,get,o)) (hf:w9q floor b=true):Xm floor st (st.withMem (x6j st.mem b)):=by
 cases b with
 | none=>exact Xm.refl _ _
 | some b=>
  have hm: ∃ab,Yd st.mem b=some ab:=by
   unfold z3x at ht;split at ht
   ·simp at ht
   ·split at ht
    ·rename_i blk hm;split at ht
     ·obtain ⟨_,ht⟩:=Zo ht;simp only [Option.some.injEq,Prod.mk.injEq] at ht;obtain ⟨rfl,_⟩:=ht;exact ⟨_,hm⟩
     ·cases ht
    ·cases ht
   ·split at ht
    ·rename_i blk hm;split at ht
     ·obtain ⟨_,ht⟩:=Zo ht;simp only [Option.some.injEq,Prod.mk.injEq] at ht;obtain ⟨rfl,_⟩:=ht;exact ⟨_,hm⟩
     ·cases ht
    ·cases ht
   ·cases ht
  obtain ⟨ab,hm⟩:=hm;exact Xm.write st none (Nat.le_of_ble_eq_true hf) hm
theorem x3h {cx:Ctx} {st st':St} {ts:List TypeId} {xs:List AVal} {v:AVal} (h:Qw P cx st ts xs=some (v,st')):Xm cx.floor st st'∧st'.env=st.env:=by
 unfold Qw at h;split at h
 ·split at h
  ·split at h
   ·split at h
    ·rename_i ht _;obtain ⟨hc,h⟩:=Zo h;simp only [Bool.and_eq_true] at hc;simp only [Option.map_eq_some_iff,Prod.mk.injEq] at h;obtain ⟨_,h1,_,rfl⟩:=h;obtain ⟨o1,o2,o3,o4⟩:=Xc h1;exact ⟨(v5f ht hc.2).trans (Xm.put (st.withMem _) _ o2 (o3.trans rfl) fun x=>(o4 x).2),o1⟩
    ·cases h
   ·cases h
  ·cases h
 ·cases h
theorem x3j {cx:Ctx} {st st':St} {ts:List TypeId} {xs:List AVal} {v:AVal} (h:z0n P cx st ts xs=some (v,st')):Xm cx.floor st st'∧st'.env=st.env:=by
 unfold z0n at h;rcases Uf h with ⟨_,h⟩ | ⟨_,h⟩
 ·exact x3h h
 ·split at h
  ·exact x3i h
  ·exact x8k h
theorem v1o {floor:Nat} {st st':St} {ts:List TypeId} {xs:List AVal} {v:AVal} (h:x8h P floor st ts xs=some (v,st')):Xm floor st st'∧st'.env=st.env:=by
 unfold x8h at h;split at h
 ·split at h
  ·split at h
   ·split at h
    ·obtain ⟨_,h⟩:=Zo h;split at h
     ·simp only [Option.some.injEq,Prod.mk.injEq] at h;obtain ⟨_,rfl⟩:=h;exact ⟨Xm.refl _ _,rfl⟩
     ·obtain ⟨_,h⟩:=Zo h;simp only [Option.some.injEq,Prod.mk.injEq] at h;obtain ⟨_,rfl⟩:=h;exact ⟨Xm.refl _ _,rfl⟩
     ·dsimp only at h;split at h
      ·rename_i blk hm;obtain ⟨hc,h⟩:=Zo h;simp only [Bool.and_eq_true] at hc;simp only [Option.some.injEq,Prod.mk.injEq] at h;obtain ⟨_,rfl⟩:=h;exact ⟨Xm.write st _ (Nat.le_of_ble_eq_true hc.1) hm,rfl⟩
      ·cases h
     ·cases h
    ·cases h
   ·cases h
  ·cases h
 ·cases h
theorem w4p {floor:Nat} {st st':St} {ts:List TypeId} {xs:List AVal} {v:AVal} (h:y4s P floor st ts xs=some (v,st')):Xm floor st st'∧st'.env=st.env:=by
 unfold y4s at h;split at h
 ·split at h
  ·split at h
   ·split at h
    ·simp only [Option.some.injEq,Prod.mk.injEq] at h;obtain ⟨_,rfl⟩:=h;exact ⟨Xm.refl _ _,rfl⟩
    ·rcases Uf h with ⟨_,h⟩ | ⟨_,h⟩
     ·simp only [Option.some.injEq,Prod.mk.injEq] at h;obtain ⟨_,rfl⟩:=h;exact ⟨Xm.refl _ _,rfl⟩
     ·obtain ⟨hc,h⟩:=Zo h;simp only [Bool.and_eq_true] at hc;split at h
      ·rename_i blk hm;obtain ⟨_,h⟩:=Zo h;simp only [Option.some.injEq,Prod.mk.injEq] at h;obtain ⟨_,rfl⟩:=h;exact ⟨Xm.write st _ (Nat.le_of_ble_eq_true hc.2) hm,rfl⟩
      ·cases h
    ·cases h
   ·cases h
  ·cases h
 ·cases h
theorem z7t {S:Specs} {R:Runner} (hR:x3p R) {lift:Bool} {f:FuncId} {args:List AVal} {cx:Ctx} {st st':St} {v:AVal} (h:w4q P S R lift f args cx st=some (v,st')):
  (Xm cx.floor st st'∧(lift=true→ ∀b,b<st.next→grOf S f args≠some b→Yd st'.mem b=Yd st.mem b))∧st'.env=st.env:=by
 unfold w4q at h;split at h
 ·rcases Uf h with ⟨_,h⟩ | ⟨_,h⟩
  ·split at h
   ·obtain ⟨_,h⟩:=Zo h;simp only [Option.map_eq_some_iff,Prod.mk.injEq] at h;obtain ⟨st1,h1,_,rfl⟩:=h;obtain ⟨e1,e2,e3,e4⟩:=Xc h1;exact ⟨⟨Xm.same e2 e3 fun x=>(e4 x).2,fun _ b _ _=>by rw [e2]⟩,e1⟩
   ·cases h
  ·split at h;split at h
   ·obtain ⟨_,h⟩:=Zo h;simp only [Option.map_eq_some_iff,Prod.mk.injEq] at h;obtain ⟨st1,h1,_,rfl⟩:=h;obtain ⟨e1,e2,e3,e4⟩:=Xc h1;exact ⟨⟨Xm.same e2 e3 fun x=>(e4 x).2,fun _ b _ _=>by rw [e2]⟩,e1⟩
   ·cases h
 ·split at h
  ·rename_i v0 b blk o _;split at h
   ·rename_i ab hm;obtain ⟨hc,h⟩:=Zo h;simp only [Bool.and_eq_true,Bool.not_eq_true'] at hc;simp only [Option.map_eq_some_iff,Prod.mk.injEq] at h;obtain ⟨st1,h1,_,rfl⟩:=h;obtain ⟨e1,e2,e3,e4⟩:=Xc h1;exact ⟨⟨(Xm.write st (some blk) (Nat.le_of_ble_eq_true hc.2) hm).trans (Xm.same e2 e3 fun x=>(e4 x).2),fun hl=>by rw [hl] at hc;cases hc.1⟩,e1⟩
   ·cases h
  ·cases h
 ·rename_i ty0 F hF;split at h
  ·rename_i b sz n sz' r;split at h
   ·rename_i cells ty A hm;obtain ⟨hc,h⟩:=Zo h;simp only [Bool.and_eq_true] at hc;split at h
    ·rename_i n' g o _;simp only [Option.map_eq_some_iff,Prod.mk.injEq] at h;obtain ⟨st1,h1,_,rfl⟩:=h;obtain ⟨env,mem,next,orc,ob⟩:=st;simp only at h1 hm ⊢;obtain ⟨e1,e2,e3,e4⟩:=Xc h1;simp only at e1 e2 e3 e4;have hle:=Nat.le_of_ble_eq_true hc.2.2.1;refine ⟨⟨⟨?_,fun hb k hk=> ?_,fun hf k hk=> ?_,fun x=>(e4 x).2⟩,fun _ k hk hn=> ?_⟩,e1⟩
     ·show next≤_
      rw [e3];omega
     ·have hb: ∀k,next≤k→Yd mem k=none:=hb
      rw [e3] at hk;have hbk:b≠k:=fun e=>by rw [e,hb k (by omega)] at hm;cases hm
      rw [e2,Zw _ _ (by omega),Zw _ _ (Ne.symm hbk)];exact hb k (by omega)
     ·have hf:cx.floor≤next:=hf
      rw [e2,Zw _ _ (by omega),Zw _ _ (by omega)]
     ·have hk:k<next:=hk
      have hbk:k≠b:=fun e=>hn (by
       unfold grOf;rw [hF,e])
      rw [e2,Zw _ _ (by omega),Zw _ _ hbk]
    ·cases h
   ·cases h
  ·cases h
 ·split at h
  ·split at h
   ·split at h
    ·rename_i st2 hr;split at h
     ·simp only [Option.some.injEq,Prod.mk.injEq] at h;obtain ⟨_,rfl⟩:=h;have q:=hR _ _ _ _ hr;refine ⟨?_,rfl⟩;cases lift with
      | false=>exact ⟨⟨q.nxt,q.bd,q.low,q.ob⟩,fun x=>by cases x⟩
      | true=>refine ⟨⟨q.nxt,q.bd,fun hf b hb=>q.low (Nat.le_refl _) b (Nat.lt_of_lt_of_le hb hf),q.ob⟩,fun _ b hb _=>q.low (Nat.le_refl _) b hb⟩
     ·cases h
    ·cases h
   ·cases h
  ·cases h
theorem y7w {cx:Ctx} {st st':St} {ts:List TypeId} {b sz off len:Nat} {x v:AVal} (h:z9y P cx st ts b sz off len x=some (v,st')):Xm cx.floor st st'∧st'.env=st.env:=by
 unfold z9y at h;split at h
 ·split at h
  ·split at h
   ·rename_i hm;split at h
    ·obtain ⟨hc,h⟩:=Zo h;simp only [Bool.and_eq_true] at hc;simp only [Option.map_eq_some_iff,Prod.mk.injEq] at h;obtain ⟨_,h1,_,rfl⟩:=h;obtain ⟨o1,o2,o3,o4⟩:=Xc h1;exact ⟨(Xm.write st _ (Nat.le_of_ble_eq_true hc.1) hm).trans (Xm.same o2 o3 fun x=>(o4 x).2),o1⟩
    ·cases h
   ·cases h
  ·cases h
 ·cases h
theorem w4n {cx:Ctx} {st st':St} {ts:List TypeId} {xs:List AVal} {v:AVal} (h:y7x P cx st ts xs=some (v,st')):Xm cx.floor st st'∧st'.env=st.env:=by
 unfold y7x at h;split at h
 ·exact y7w h
 ·exact y7w h
 ·exact v1o h
theorem y4q {S:Specs} {R:Runner} (hR:x3p R) {lift:Bool} {op:Op} {cx:Ctx} {st st':St} {v:AVal} (h:Wa P S R lift op cx st=some (v,st')):Xm cx.floor st st'∧st'.env=st.env:=by
 unfold Wa at h;split at h
 ·split at h
  ·rename_i hl;obtain ⟨l1,l2,l3,l4⟩:=z2j hl;simp only [Option.map_eq_some_iff,Prod.mk.injEq] at h;obtain ⟨_,h1,_,rfl⟩:=h;obtain ⟨e1,e2,e3,e4⟩:=Xc h1;exact ⟨Xm.same (e2.trans l2) (e3.trans l3) fun x=>(l4 (e4 x).2).2,e1.trans l1⟩
  ·cases h
 ·simp only [Option.map_eq_some_iff,Prod.mk.injEq] at h;obtain ⟨_,_,_,rfl⟩:=h;exact ⟨Xm.new st _ _,rfl⟩
 ·obtain ⟨_,h⟩:=Zo h;simp only [Option.some.injEq,Prod.mk.injEq] at h;obtain ⟨_,rfl⟩:=h;exact ⟨Xm.new st _ _,rfl⟩
 ·exact y4u _ h
 ·split at h
  ·simp only [Option.map_eq_some_iff,Prod.mk.injEq] at h;obtain ⟨_,h,_,rfl⟩:=h;exact x8c h
  ·simp only [Option.map_eq_some_iff,Prod.mk.injEq] at h;obtain ⟨_,h,_,rfl⟩:=h;exact w4l h
 ·rcases Uf h with ⟨_,h⟩ | ⟨_,h⟩
  ·rcases Uf h with ⟨_,h⟩ | ⟨_,h⟩
   ·have q:=z4w (st:=st.dropO) cx.floor h;exact ⟨⟨q.1.nxt,q.1.bd,q.1.low,q.1.ob⟩,q.2⟩
   ·have q:=y4n (st:=st.dropO) h;exact ⟨⟨q.1.nxt,q.1.bd,q.1.low,q.1.ob⟩,q.2⟩
  ·exact z4w _ h
 ·exact x3j h
 ·exact w4n h
 ·exact w4p h
 ·split at h
  ·obtain ⟨⟨h1,_⟩,h2⟩:=z7t hR h;exact ⟨h1,h2⟩
  ·obtain ⟨⟨h1,_⟩,h2⟩:=z7t hR h;exact ⟨h1,h2⟩
  ·cases h
 ·cases h
def y7y (x:Nat) (st st':St):Prop:=Yd st'.mem x=Yd st.mem x
theorem Jp {x b:Nat} (st:St) (o:Option ABlk) (hn:b≠x):y7y x st (st.withMem (Xi st.mem b o)):=Zw _ _ fun e=>hn e.symm
theorem z3y {x:Nat} (st:St) (cs:List AVal) (ty:TypeId) (hx:x<st.next):y7y x st (z8w st cs ty):=Zw _ _ (Nat.ne_of_lt hx)
theorem x8b {x:Nat} {floor:Nat} {st st':St} {t:TypeId} {a v:AVal} (h:y4l P floor st t a v=some st') (hn: ∀off,a≠ .ptr x off):y7y x st st':=by
 unfold y4l at h;split at h
 ·rename_i b off _ _;obtain ⟨_,h⟩:=Zo h;split at h
  ·obtain ⟨_,h⟩:=Zo h;obtain rfl:=Option.some.inj h;exact Jp st _ fun e=>hn off (by rw [e])
  ·cases h
 ·cases h
theorem x2z {x:Nat} {cx:Ctx} {st st':St} {t:TypeId} {a v:AVal} (h:z5y P cx st t a v=some st') (hn: ∀sz r fo,a≠ .epa x sz r fo):y7y x st st':=by
 unfold z5y at h;split at h
 ·rename_i b sz r fo _ _;obtain ⟨_,h⟩:=Zo h;split at h
  ·split at h
   ·split at h
    ·rename_i rw1 st1 eG;obtain ⟨_,s2,_,_⟩:=z5a eG;obtain ⟨_,o2,_,_⟩:=Xc h;unfold y7y;rw [o2,←s2];exact Jp st1 _ fun e=>hn sz r fo (by rw [e])
    ·cases h
   ·cases h
  ·cases h
 ·cases h
theorem y0h {x:Nat} {st st':St} {t:TypeId} {len:Nat} {ps:List (Nat×AVal)} {v:AVal} {un:Bool} (hx:x<st.next) (h:Jj P un st t len ps=some (v,st')):y7y x st st':=by
 unfold Jj at h;split at h
 ·split at h
  ·obtain ⟨_,h⟩:=Zo h;split at h
   ·simp only [Option.some.injEq,Prod.mk.injEq] at h;obtain ⟨_,rfl⟩:=h;exact z3y st _ _ hx
   ·cases h
  ·cases h
 ·cases h
theorem z3v {x:Nat} {st st':St} {t:TypeId} {l c v:AVal} (hx:x<st.next) (h:Vi P st t l c=some (v,st')):y7y x st st':=by
 unfold Vi at h;split at h
 ·split at h
  ·obtain ⟨_,h⟩:=Zo h;simp only [Option.some.injEq,Prod.mk.injEq] at h;obtain ⟨_,rfl⟩:=h;exact z3y st _ _ hx
  ·cases h
 ·cases h
theorem x3g {x floor:Nat} {st st':St} {ts:List TypeId} {xs:List AVal} {v:AVal} (hx:x<st.next) (h:Qe P floor st ts xs=some (v,st')) (hn: ∀off len cap r,xs≠ .sl x off len cap::r):y7y x st st':=by
 unfold Qe at h;split at h
 ·split at h
  ·split at h
   ·split at h
    ·obtain ⟨_,h⟩:=Zo h;split at h
     ·rcases Uf h with ⟨_,h⟩ | ⟨_,h⟩
      ·simp only [Option.some.injEq,Prod.mk.injEq] at h;obtain ⟨_,rfl⟩:=h;rfl
      ·obtain ⟨_,h⟩:=Zo h;simp only [Option.some.injEq,Prod.mk.injEq] at h;obtain ⟨_,rfl⟩:=h;exact z3y st _ _ hx
     ·have hb:=fun e=>hn _ _ _ _ (congrArg (fun b=>AVal.sl b _ _ _::_) e);split at h
      ·rename_i blk hm;split at h
       ·obtain ⟨_,h⟩:=Zo h;split at h
        ·rcases Uf h with ⟨_,h⟩ | ⟨_,h⟩
         ·obtain ⟨hc,h⟩:=Zo h;simp only [Option.some.injEq,Prod.mk.injEq] at h;obtain ⟨_,rfl⟩:=h;exact Jp st _ hb
         ·simp only [Option.some.injEq,Prod.mk.injEq] at h;obtain ⟨_,rfl⟩:=h;exact z3y st _ _ hx
        ·obtain ⟨hc,h⟩:=Zo h;rcases Uf h with ⟨_,h⟩ | ⟨_,h⟩
         ·simp only [Option.some.injEq,Prod.mk.injEq] at h;obtain ⟨_,rfl⟩:=h;exact Jp st _ hb
         ·obtain ⟨_,h⟩:=Zo h;simp only [Option.some.injEq,Prod.mk.injEq] at h;obtain ⟨_,rfl⟩:=h;exact (z3y (st.withMem (Xi st.mem _ none)) _ _ hx).trans (Jp st none hb)
       ·cases h
      ·cases h
     ·cases h
    ·cases h
   ·cases h
  ·cases h
 ·cases h
theorem y0e {x:Nat} {cx:Ctx} {st st':St} {t:TypeId} {l c v:AVal} (hx:x<st.next) (h:Ju P cx st t l c=some (v,st')):y7y x st st':=by
 unfold Ju at h;split at h
 ·split at h
  ·obtain ⟨_,h⟩:=Zo h;simp only [Option.map_eq_some_iff,Prod.mk.injEq] at h;obtain ⟨_,h1,_,rfl⟩:=h;obtain ⟨_,o2,_,_⟩:=Xc h1;unfold y7y;rw [o2];exact Zw _ _ (Nat.ne_of_lt hx)
  ·cases h
 ·cases h
theorem x0j {x:Nat} {cx:Ctx} {st st':St} {ts:List TypeId} {xs:List AVal} {v:AVal} (hx:x<st.next) (h:z2k P cx st ts xs=some (v,st')) (hn: ∀sz off len cap r,xs≠ .sla x sz off len cap::r):y7y x st st':=by
 unfold z2k at h;split at h
 ·have hb:=fun e=>hn _ _ _ _ _ (congrArg (fun b=>AVal.sla b _ _ _ _::_) e);split at h
  ·split at h
   ·cases h
   ·split at h
    ·split at h
     ·split at h
      ·obtain ⟨hc,h⟩:=Zo h;simp only [Option.map_eq_some_iff,Prod.mk.injEq] at h;obtain ⟨_,h1,_,rfl⟩:=h;obtain ⟨_,o2,_,_⟩:=Xc h1;unfold y7y;rw [o2];show Yd (Xi (Xi st.mem _ none) st.next _) x=_;rw [Zw _ _ (Nat.ne_of_lt hx)];exact Zw _ _ fun e=>hb e.symm
      ·cases h
     ·cases h
    ·cases h
  ·cases h
 ·cases h
theorem y5d {m:Mem} {sz len b:Nat} {x:AVal} {get:Nat→List AVal} {o:Bool} (ht:z3x m sz x=some (some b,len,get,o)):(∃off len cap,x=.sl b off len cap)∨ ∃sz off len cap,x=.sla b sz off len cap:=by
 unfold z3x at ht;split at ht
 ·simp at ht
 ·split at ht
  ·split at ht
   ·obtain ⟨_,ht⟩:=Zo ht;simp only [Option.some.injEq,Prod.mk.injEq] at ht;obtain ⟨rfl,_⟩:=ht;exact .inl ⟨_,_,_,rfl⟩
   ·cases ht
  ·cases ht
 ·split at ht
  ·split at ht
   ·obtain ⟨_,ht⟩:=Zo ht;simp only [Option.some.injEq,Prod.mk.injEq] at ht;obtain ⟨rfl,_⟩:=ht;exact .inr ⟨_,_,_,_,rfl⟩
   ·cases ht
  ·cases ht
 ·cases ht
theorem x0i {x:Nat} {cx:Ctx} {st st':St} {ts:List TypeId} {xs:List AVal} {v:AVal} (hx:x<st.next) (h:Qw P cx st ts xs=some (v,st')) (hn: ∀off len cap r,xs≠ .sl x off len cap::r) (hn2: ∀sz off len cap r,xs≠ .sla x sz off len cap::r):y7y x st st':=by
 unfold Qw at h;split at h
 ·split at h
  ·split at h
   ·split at h
    ·rename_i b len get o1 n g o2 ht _;obtain ⟨hc,h⟩:=Zo h;simp only [Option.map_eq_some_iff,Prod.mk.injEq] at h;obtain ⟨_,h1,_,rfl⟩:=h;obtain ⟨_,o2,_,_⟩:=Xc h1;unfold y7y;rw [o2];show Yd (Xi (x6j st.mem b) st.next _) x=_;rw [Zw _ _ (Nat.ne_of_lt hx)];cases b with
     | none=>rfl
     | some b=>
      refine Zw _ _ fun e=> ?_;subst e;rcases y5d ht with ⟨_,_,_,rfl⟩ | ⟨_,_,_,_,rfl⟩
      ·exact hn _ _ _ _ rfl
      ·exact hn2 _ _ _ _ _ rfl
    ·cases h
   ·cases h
  ·cases h
 ·cases h
theorem x0k {x:Nat} {cx:Ctx} {st st':St} {ts:List TypeId} {xs:List AVal} {v:AVal} (hx:x<st.next) (h:z0n P cx st ts xs=some (v,st')) (hn: ∀off len cap r,xs≠ .sl x off len cap::r) (hn2: ∀sz off len cap r,xs≠ .sla x sz off len cap::r):y7y x st st':=by
 unfold z0n at h;rcases Uf h with ⟨_,h⟩ | ⟨_,h⟩
 ·exact x0i hx h hn hn2
 ·split at h
  ·exact x0j hx h hn2
  ·exact x3g hx h hn
theorem w4m {x floor:Nat} {st st':St} {ts:List TypeId} {xs:List AVal} {v:AVal} (h:x8h P floor st ts xs=some (v,st')) (hn: ∀off len cap r,xs≠ .sl x off len cap::r):y7y x st st':=by
 unfold x8h at h;split at h
 ·split at h
  ·split at h
   ·split at h
    ·obtain ⟨_,h⟩:=Zo h;split at h
     ·simp only [Option.some.injEq,Prod.mk.injEq] at h;obtain ⟨_,rfl⟩:=h;rfl
     ·obtain ⟨_,h⟩:=Zo h;simp only [Option.some.injEq,Prod.mk.injEq] at h;obtain ⟨_,rfl⟩:=h;rfl
     ·have hb:=fun e=>hn _ _ _ _ (congrArg (fun b=>AVal.sl b _ _ _::_) e);dsimp only at h;split at h
      ·obtain ⟨hc,h⟩:=Zo h;simp only [Option.some.injEq,Prod.mk.injEq] at h;obtain ⟨_,rfl⟩:=h;exact Jp st _ hb
      ·cases h
     ·cases h
    ·cases h
   ·cases h
  ·cases h
 ·cases h
theorem y4r {x:Nat} {cx:Ctx} {st st':St} {ts:List TypeId} {b sz off len:Nat} {y v:AVal} (h:z9y P cx st ts b sz off len y=some (v,st')) (hn:b≠x):y7y x st st':=by
 unfold z9y at h;split at h
 ·split at h
  ·split at h
   ·split at h
    ·obtain ⟨_,h⟩:=Zo h;simp only [Option.map_eq_some_iff,Prod.mk.injEq] at h;obtain ⟨_,h1,_,rfl⟩:=h;obtain ⟨_,o2,_,_⟩:=Xc h1;show Yd _ x=_;rw [o2];exact Jp st _ hn
    ·cases h
   ·cases h
  ·cases h
 ·cases h
theorem x8g {x:Nat} {cx:Ctx} {st st':St} {ts:List TypeId} {xs:List AVal} {v:AVal} (h:y7x P cx st ts xs=some (v,st')) (hn: ∀off len cap r,xs≠ .sl x off len cap::r) (hn2: ∀sz off len cap r,xs≠ .sla x sz off len cap::r) (hn3: ∀sz off len r,xs≠ .slv x sz off len::r):y7y x st st':=by
 unfold y7x at h;split at h
 ·exact y4r h fun e=>hn2 _ _ _ _ _ (by rw [e])
 ·exact y4r h fun e=>hn3 _ _ _ _ (by rw [e])
 ·exact w4m h hn
theorem x8i {x floor:Nat} {st st':St} {ts:List TypeId} {xs:List AVal} {v:AVal} (h:y4s P floor st ts xs=some (v,st')) (hn: ∀off len cap r,xs≠ .sl x off len cap::r):y7y x st st':=by
 unfold y4s at h;split at h
 ·split at h
  ·split at h
   ·split at h
    ·simp only [Option.some.injEq,Prod.mk.injEq] at h;obtain ⟨_,rfl⟩:=h;rfl
    ·have hb:=fun e=>hn _ _ _ _ (congrArg (fun b=>AVal.sl b _ _ _::_) e);rcases Uf h with ⟨_,h⟩ | ⟨_,h⟩
     ·simp only [Option.some.injEq,Prod.mk.injEq] at h;obtain ⟨_,rfl⟩:=h;rfl
     ·obtain ⟨hc,h⟩:=Zo h;split at h
      ·obtain ⟨_,h⟩:=Zo h;simp only [Option.some.injEq,Prod.mk.injEq] at h;obtain ⟨_,rfl⟩:=h;exact Jp st _ hb
      ·cases h
    ·cases h
   ·cases h
  ·cases h
 ·cases h
theorem x3d {S:Specs} {R:Runner} {lift:Bool} {op:Op} {cx:Ctx} {st st':St} {v:AVal} {x:Nat} (hk:Xy op=.chain) (hx:x<st.next) (hn:x0m op st.eval≠some x) (h:Wa P S R lift op cx st=some (v,st')):y7y x st st':=by
 cases op with
 | store t a y=>
  simp only [Wa] at h;split at h
  ·rename_i b sz r fo hb;simp only [Option.map_eq_some_iff,Prod.mk.injEq] at h;obtain ⟨_,h,_,rfl⟩:=h;exact x2z h fun sz r fo e=>hn (by simp only [x0m,hb];cases e;rfl)
  ·simp only [Option.map_eq_some_iff,Prod.mk.injEq] at h;obtain ⟨_,h,_,rfl⟩:=h;exact x8b h fun off e=>hn (by simp only [x0m,e])
 | box t y=>unfold Wa at h;simp only at h;obtain ⟨_,h⟩:=Zo h;simp only [Option.some.injEq,Prod.mk.injEq] at h;obtain ⟨_,rfl⟩:=h;exact z3y st _ _ hx
 | buildSlice t n ps=>exact y0h hx h
 | makeSlice t l c=>
  unfold Wa at h;simp only at h;rcases Uf h with ⟨_,h⟩ | ⟨_,h⟩
  ·rcases Uf h with ⟨_,h⟩ | ⟨_,h⟩
   ·exact (z3v (st:=st.dropO) hx h)
   ·exact (y0e (st:=st.dropO) hx h)
  ·exact z3v hx h
 | call c=>
  obtain ⟨callee,args,argTypes⟩:=c;cases callee with
  | builtin b=>
   cases b <;> first
    | (simp [Xy] at hk;done)
    | exact x0k hx h (fun off len cap r e=>hn (by simp only [x0m,e])) (fun sz off len cap r e=>hn (by simp only [x0m,e]))
    | exact x8g h (fun off len cap r e=>hn (by simp only [x0m,e])) (fun sz off len cap r e=>hn (by simp only [x0m,e])) (fun sz off len r e=>hn (by simp only [x0m,e]))
    | exact x8i h fun off len cap r e=>hn (by simp only [x0m,e])
  | value f=>simp [Xy] at hk
  | invoke r m=>simp [Xy] at hk
 | _=>simp [Xy] at hk
theorem Jd : ∀(d:Nat) (a:AVal) (u:Value),pf d a=true→Yy ρ a u→Yy ρ.bare a u
 | 0,_,_,h,_=>by simp [pf] at h
 | d+1,a,u,h,hr=>by
  cases hr with
  | undef=>simp [pf] at h
  | bool=>exact .bool _
  | int=>exact .int _ _
  | str=>exact .str _
  | agg cs vs hl hh=>simp only [pf,List.all_eq_true] at h;exact .agg cs vs hl fun i h1 h2=>Jd d _ _ (h _ (List.getElem_mem h1)) (hh i h1 h2)
  | tup cs vs hl hh=>simp only [pf,List.all_eq_true] at h;exact .tup cs vs hl fun i h1 h2=>Jd d _ _ (h _ (List.getElem_mem h1)) (hh i h1 h2)
  | ptr=>simp [pf] at h
  | nilp=>exact .nilp
  | sl=>simp [pf] at h
  | sla=>simp [pf] at h
  | slan=>simp [pf] at h
  | slv=>simp [pf] at h
  | slve=>simp [pf] at h
  | slvn=>simp [pf] at h
  | epa=>simp [pf] at h
  | nils=>exact .nils
  | fn f cs vs hl hh=>obtain rfl:cs=[]:=List.isEmpty_iff.1 h;exact .fn f [] vs hl fun i h1=>absurd h1 (Nat.not_lt_zero _)
  | nilf=>exact .nilf
  | fnb=>simp [pf] at h
  | yld=>simp [pf] at h
  | ifc=>simp [pf] at h
  | nili=>exact .nili
  | dat len get blk base sz cap val dB hsz hv hh=>exact .dat len get blk base sz cap val dB hsz hv hh
  | datn get=>exact .datn get
  | datz get a c=>exact .datz get a c
  | dptr cs blk base val hv hh=>exact .dptr cs blk base val hv hh
def ValOk (P:Program) (f:FuncId) (F:List AVal→Option (AVal×Bool)):Prop:=
 ∀args v,F args=some (v,true)→ ∀(H:Old) (vals:Array Value) (w:World),Ws (Yy (z3b H)) args vals.toList→(∀k o,H k=some o→w.heap[k]? =some o)→
  Calls P f vals w fun e w'=> ∃H' u,(∀k o,H k=some o→H' k=some o)∧(∀k o,H' k=some o→w'.heap[k]? =some o)∧(∀k,k<w.heap.size→H' k=H k)∧e=.returned u∧Yy (z3b H') v u∧RowKit.Below w.heap.size w w'
def x3n (P:Program) (f:FuncId) (F:List AVal→Mem→Option (AVal×Nat×ABlk×Bool)):Prop:=
 ∀args mem v b blk,F args mem=some (v,b,blk,true)→(Yd mem b).isSome =true→ ∀(ρ:Rho) (next floor:Nat) (vals:Array Value) (w:World),floor≤b→Ws (Yy ρ) args vals.toList→Rel ρ mem next w→
  Calls P f vals w fun e w'=> ∃u,e=.returned u∧Yy ρ v u∧Rel ρ (Xi mem b (some blk)) next w'∧Ev ρ ρ floor mem next (Xi mem b (some blk)) next w w'
def v8n (H:Old) (l:Option Loc):Rho:=⟨fun b=>if b=0 then l else none,H,fun _=>none⟩
def mem1 (ty:TypeId) (sz n:Nat) (get:Nat→List AVal):Mem:=Xi .leaf 0 (some ⟨rows n get,ty,some ⟨sz,n,.flat get⟩⟩)
def GroOk (P:Program) (f:FuncId) (ty:TypeId) (F:Nat→(Nat→List AVal)→List AVal→Option (Nat×(Nat→List AVal)×Bool)):Prop:=
 ∀ (sz n:Nat) (get:Nat→List AVal) (r:List AVal) (n':Nat) (g:Nat→List AVal),F n get r=some (n',g,true)→plR sz n get=true→plR sz n' g=true→1≤sz→ ∀(H:Old) (l:Option Loc) (vals:Array Value) (w:World),
  Ws (Yy (v8n H l)) (.sla 0 sz 0 n (.un sz)::r) vals.toList→Rel (v8n H l) (mem1 ty sz n get) 1 w→(∀k o,w.heap[k]? =some o→(∃l0,l=some l0∧l0.blk=k)∨H k=some o)→
  Calls P f vals w fun e w'=> ∃ρ' u m' nx b ty',e=.returned u∧Yy ρ' (.sla b sz 0 n' (.un sz)) u∧Yd m' b=some ⟨rows n' g,ty',some ⟨sz,n',.flat g⟩⟩∧Rel ρ' m' nx w'∧
   (∀k o,H k=some o→ρ'.fz k=some o)∧w.heap.size≤w'.heap.size∧w'.os=w.os∧w'.tape=w.tape∧w'.output=w.output
def SpecOk (P:Program) (f:FuncId):Spec→Prop
 | .val F=>ValOk P f F
 | .eff F=>x3n P f F
 | .gro ty F=>GroOk P f ty F
def Zu (P:Program) (S:Specs):Prop:=
 ∀f F,S f=some F→(∃fn,P.funcs[f]? =some fn∧fn.body.isSome=true)∧SpecOk P f F
def z7u (P:Program):Prop:= ∀(f:FuncId) (fn:Func),P.funcs[f]? =some fn→fn.body.isSome=true→(fn.name == "runtime.NumGoroutine")=false
def ROk (P:Program) (R:Runner):Prop:=
 ∀ cx todo st st',cx.floor≤st.next→R cx todo st=some st'→st'.ob=true→ ∀(ρ:Rho) (a:Act) (w:World) (b:Frame) (cs:List Frame),a.defers=[]→Wq ρ st.env cx.n a.tmps→Rel ρ st.mem st.next w→
  ∃ρ' a' todo' w',Steps P (lone (b.at a todo) cs w) (lone {b.at a' todo' with mode:=.returning} cs w')∧a'.defers=[]∧Wq ρ' st'.env cx.n a'.tmps∧Rel ρ' st'.mem st'.next w'∧
   Ev ρ ρ' cx.floor st.mem st.next st'.mem st'.next w w'
theorem y3x : ∀(args:List AVal) (i:Nat) (t:T AVal) (k:Nat),T.get .undef (z8q args i t) k=if i≤k∧k<i+args.length then args.getD (k - i) .undef else T.get .undef t k
 | [],i,t,k=>by rw [if_neg (by intro h;simp at h;omega)];rfl
 | a::r,i,t,k=>by
  simp only [z8q];rw [y3x r (i+1) _ k,T.get_set];by_cases h1:k=i
  ·subst h1;rw [if_neg (by omega),if_pos rfl,if_pos (by simp)];simp
  ·by_cases h2:i+1≤k∧k<i+1+r.length
   ·rw [if_pos h2,if_pos (by simp;omega)];have:k - i=(k - (i+1))+1:=(by omega);rw [this];simp
   ·rw [if_neg h2,if_neg h1,if_neg (by simp;omega)]
def x1g (tmps:Array Value):ResultVar→Sem Value
 | .tmp t=>pure (tmps.getD t undef)
 | .cell a t=>do loadVar t (←asAddr (tmps.getD a undef))
theorem w2n (fn:Func) (tmps:Array Value):results fn tmps=(do
  let vs←fn.results.mapM (x1g tmps)
  pure (if h:vs.size=1 then vs[0] else .tuple vs)):=by
 unfold results;have:(fun r:ResultVar=>(match r with | .tmp t=>pure (tmps.getD t undef) | .cell a t=>do loadVar t (←asAddr (tmps.getD a undef)):Sem Value))=x1g tmps:=by
  funext r
  cases r <;> rfl
 rw [←this];rfl
theorem x0d {st:St} {w:World} {tmps:Array Value} {n:Nat} (cZ:Wq ρ st.env n tmps) (cU:Rel ρ st.mem st.next w) {r:ResultVar} {v:AVal} (h:x0e P st r=some v):
  ∃u,Yy ρ v u∧(x1g tmps r).run P w=.ok u w:=by
 have get: ∀t,Yy ρ (st.tmp t) (tmps.getD t undef):=fun t=>cZ.get t;cases r with
 | tmp t=>simp only [x0e,Option.some.injEq] at h;subst h;exact ⟨_,get t,rfl⟩
 | cell a t=>
  simp only [x0e] at h;obtain ⟨z,hz,hr⟩:=y4o cU h (get a);refine ⟨z,hz,?_⟩;have ha:=get a;unfold x1g;simp only;generalize tmps.getD a undef=u at ha hr ⊢;unfold x8d at h;split at h
  ·rename_i e;rw [e] at ha;cases ha
   simpa [Instr.loadAt,Instr.sureAddr,asAddr] using hr
  ·rename_i e;rw [e] at ha;cases ha
   simpa [Instr.loadAt,Instr.sureAddr,asAddr] using hr
  ·cases h
theorem z4v {st:St} {w:World} {tmps:Array Value} {n:Nat} (cZ:Wq ρ st.env n tmps) (cU:Rel ρ st.mem st.next w): ∀{rs:List ResultVar} {vs:List AVal},Jh P st rs=some vs→
  ∃us,Ws (Yy ρ) vs us∧(rs.mapM (x1g tmps)).run P w=.ok us w
 | [],vs,h=>by simp only [Jh,Option.some.injEq] at h;subst h;exact ⟨[],.nil,by simp⟩
 | r::rs,vs,h=>by
  unfold Jh at h;split at h
  ·rename_i v vs' h1 h2;obtain rfl:=Option.some.inj h;obtain ⟨u,hu,hr⟩:=x0d cZ cU h1;obtain ⟨us,hus,hrs⟩:=z4v cZ cU h2;refine ⟨u::us,.cons hu hus,?_⟩;rw [List.mapM_cons,Sem.run_bind,hr];simp only [Result.andThen_ok,Sem.run_bind,hrs,Sem.run_pure]
  ·cases h
theorem z1t {fn:Func} {st:St} {w:World} {tmps:Array Value} {n:Nat} (cZ:Wq ρ st.env n tmps) (cU:Rel ρ st.mem st.next w) {vs:List AVal} (h:Jh P st fn.results.toList=some vs):
  ∃u,Yy ρ (Je vs) u∧(results fn tmps).run P w=.ok u w:=by
 obtain ⟨us,hus,hr⟩:=z4v cZ cU h;refine ⟨if h:us.toArray.size=1 then us.toArray[0] else .tuple us.toArray,?_,?_⟩
 ·cases hus with
  | nil=>exact .tup [] _ rfl fun i h1 _=>by simp at h1
  | cons h1 hs=>cases hs with
   | nil=>simpa [Je] using h1
   | cons h2 hs=>have dX:=Ws.cons h1 (Ws.cons h2 hs);have hl:=dX.length;simp only [Je];rw [dif_neg (by simp)];exact .tup _ _ (by simpa using hl) fun i h1 h2=>by simpa using dX.get i h1 (by simpa using h2)
 ·rw [w2n,Sem.run_bind,Array.mapM_eq_mapM_toList,Sem.run_map,hr];rfl
theorem y3w {args:List AVal} {vals:Array Value} (h:Ws (Yy ρ) args vals.toList) (ntmps:Nat):
  Wq ρ (z8q args 0 .leaf) (Nat.max ntmps args.length) (vals++Array.replicate (ntmps - vals.size) undef):=by
 have hl:args.length=vals.size:=by simpa using h.length
 have hmax:Nat.max ntmps args.length=vals.size+(ntmps - vals.size):=by have:Nat.max ntmps args.length=max ntmps args.length:=rfl;rw [this];omega
 refine ⟨by rw [hmax];simp,fun i=> ?_,fun i hi=> ?_⟩
 ·rw [y3x];by_cases hi:i<args.length
  ·rw [if_pos (by omega)];have h2:i<vals.toList.length:=by rw [←h.length];exact hi
   have:=h.get i hi h2;have e1:args.getD (i - 0) .undef =args[i]:=by simp [hi]
   have e2:(vals++Array.replicate (ntmps - vals.size) undef).getD i undef=vals.toList[i]:=by have h3:i<vals.size:=(by simpa using h2);simp [Array.getElem?_append,h3]
   rw [e1,e2];exact this
  ·rw [if_neg (by omega)];exact .undef _
 ·have hle:args.length≤Nat.max ntmps args.length:=Nat.le_max_right _ _;rw [y3x,if_neg (by omega)];rfl
theorem z1c {f:FuncId} {fn:Func} (hN:z7u P) (hf:P.funcs[f]? =some fn) (hb:fn.body.isSome=true) (args:Array Value) (w:World):(callFunc f args).run P w=.ok (.enter f args) w:=by
 have h1: ¬fn.name= "runtime.NumGoroutine" :=by simpa using hN f fn hf hb
 have h2: ¬fn.body=none:=by intro e;rw [e] at hb;cases hb
 simp [callFunc,hf,h1,h2]
theorem x3v {mem:Mem} {next:Nat} {w:World} (h:Rel ρ mem next w) {a a':AVal} {o:Bool} (hv:u1g mem a=(a',o)) (ho:o=true) {u:Value} (hr:Yy ρ a u) (hp:pf 3 a'=true):Yy (z3b fun k=>w.heap[k]?) a' u:=by
 subst ho;have hle:ρ.bare.le (z3b fun k=>w.heap[k]?):=⟨fun _ _ e=>(by cases e),fun k o e=>h.old k o e,fun _ _ e=>(by cases e)⟩
 unfold u1g at hv;split at hv
 ·rename_i b sz off len cap;split at hv
  ·rename_i blk hm;split at hv
   ·rename_i A hA;simp only [Prod.mk.injEq,Bool.and_eq_true,decide_eq_true_eq] at hv;obtain ⟨rfl,h1,h2,h3⟩:=hv;obtain rfl:=Nat.eq_of_beq_eq_true h1;have h3:= @of_decide_eq_true _ (Classical.propDecidable _) h3;cases hr with
    | slan=>exact .datn _
    | sla _ _ _ _ _ l c hρ dB cW=>
     obtain ⟨dS,eY,dJ⟩:=(h.blk b l blk hρ hm).arr A hA;obtain ⟨cur,el,hh,_⟩:=(h.blk b l blk hρ hm).cells;refine .dat len _ l.blk (l.base+off*A.sz) A.sz c (fun i j=>(w.cell? ⟨l.blk,l.base+(off+i)*A.sz+j,none⟩).getD undef) cW (fun i hi=>dJ _ (by omega)) (fun i j hi hj=> ?_) (fun i j hi hj=> ?_)
     ·obtain ⟨v,e1,e2⟩:=(h.rowAt hρ hm hA (r:=off+i) (by omega)) j hj;simp only [e1,Option.getD_some];exact (Jd 6 _ _ (List.all_eq_true.1 (h3 (off+i)) _ (List.getElem_mem hj)) e2).mono hle
     ·obtain ⟨v,e1,e2⟩:=(h.rowAt hρ hm hA (r:=off+i) (by omega)) j (by rw [dJ _ (by omega)];exact hj);simp only [e1,Option.getD_some];refine ⟨cur,el,(0,0),hh,?_⟩;simp only [World.cell?,hh] at e1;rw [←e1]
      congr 1
      rw [Nat.add_mul];omega
   ·simp only [Prod.mk.injEq] at hv;obtain ⟨rfl,_⟩:=hv;simp [pf] at hp
  ·simp only [Prod.mk.injEq] at hv;obtain ⟨rfl,_⟩:=hv;simp [pf] at hp
 ·simp only [Prod.mk.injEq] at hv;obtain ⟨rfl,_⟩:=hv;exact (Jd 3 _ _ hp hr).mono hle
theorem x3w {mem:Mem} {next:Nat} {w:World} (h:Rel ρ mem next w) {az:List AVal} {us:List Value} (hr:Ws (Yy ρ) az us): ∀{az':List AVal} {o:Bool},w5e mem az=(az',o)→o=true→az'.all (pf 3)=true→Ws (Yy (z3b fun k=>w.heap[k]?)) az' us:=by
 induction hr with
 | nil=>intro az' o hv _ _;simp only [w5e,Prod.mk.injEq] at hv;obtain ⟨rfl,_⟩:=hv;exact .nil
 | @cons a b l m h1 _ ih=>intro az' o hv ho hp;unfold w5e at hv;split at hv;rename_i a1 o1 as1 q1 e1 e2;simp only [Prod.mk.injEq] at hv;obtain ⟨rfl,rfl⟩:=hv;simp only [Bool.and_eq_true] at ho;simp only [List.all_cons,Bool.and_eq_true] at hp;exact .cons (x3v h e1 ho.1 h1 hp.1) (ih e2 ho.2 hp.2)
theorem w1z {σ:Rho} {v:AVal} {u:Value} (hs:scal v=true) (h:Yy σ v u):Yy ρ v u:=by
 cases h with
 | bool=>exact .bool _
 | int=>exact .int _ _
 | str=>exact .str _
 | tup cs vs hl hh=>
  simp only [scal,List.all_eq_true] at hs;refine .tup cs vs hl fun i h1 h2=> ?_;have k1:=hs _ (List.getElem_mem h1);have k2:=hh i h1 h2;generalize cs[i]=a at k1 k2;generalize vs[i]=b at k2;cases k2 with
  | undef=>exact .undef _
  | bool=>exact .bool _
  | int=>exact .int _ _
  | str=>exact .str _
  | _=>simp at k1
 | _=>simp [scal] at hs
theorem v4a {sz n:Nat} {get:Nat→List AVal} (h:plR sz n get=true): ∀i,i<n→(get i).length =sz∧(get i).all pl=true:= @of_decide_eq_true _ (Classical.propDecidable _) h
theorem w6n {sz n:Nat} {get:Nat→List AVal} (h:plR sz n get=true): ∀v∈rows n get,pl v=true:=fun v hv=>by obtain ⟨i,hi,hv⟩:=List.mem_flatMap.1 hv;exact List.all_eq_true.1 (v4a h i (List.mem_range.1 hi)).2 v hv
theorem pl_any {v:AVal} {u:Value} {ρ':Rho} (h:pl v=true) (hr:Yy ρ v u):Yy ρ' v u:=by
 cases hr <;> first | exact .bool _ | exact .int _ _ | (cases h;done)
theorem Vt.pl {w:World} {ab:ABlk} {l:Loc} (h:Vt ρ w ab l) (hp: ∀v∈ab.cells,pl v=true) (ρ':Rho):Vt ρ' w ab l:=by obtain ⟨h1,h2,h3,cs,el,h4,h5,h6⟩:=h;refine ⟨h1,h2,h3,cs,el,h4,h5,fun i hi=> ?_⟩;obtain ⟨v,q1,q2⟩:=h6 i hi;exact ⟨v,q1,pl_any (hp _ (List.getElem_mem hi)) q2⟩
theorem w9k {f:FuncId} {F:Nat→(Nat→List AVal)→List AVal→Option (Nat×(Nat→List AVal)×Bool)} {ty:TypeId} (hF:GroOk P f ty F) {floor next:Nat} {mem:Mem} {b sz n:Nat} {r:List AVal} {cells:List AVal} {A:Arr} (hm:Yd mem b=some ⟨cells,ty,some A⟩)
  (hA:A.sz=sz∧A.n=n) (hr:r.all (pf 3)=true) (hfl:floor≤b) (hsz:1≤sz) {n':Nat} {g:Nat→List AVal} (hv:F n A.get r=some (n',g,true)) (hp:plR sz n A.get=true) (hp':plR sz n' g=true)
  {vals:Array Value} (cY:Ws (Yy ρ) (.sla b sz 0 n (.un sz)::r) vals.toList) {w:World} (cU:Rel ρ mem next w):
  Calls P f vals w fun e w'=> ∃ρ' u,e=.returned u∧Yy ρ' (.sla next sz 0 n' (.un sz)) u∧Rel ρ' (Xi (Xi mem b none) next (some ⟨rows n' g,ty,some ⟨sz,n',.flat g⟩⟩)) (next+1) w'∧
   Ev ρ ρ' floor mem next (Xi (Xi mem b none) next (some ⟨rows n' g,ty,some ⟨sz,n',.flat g⟩⟩)) (next+1) w w':=by
 obtain ⟨rfl,rfl⟩:=hA;have hbn:b<next:=by
  rcases Nat.lt_or_ge b next with h | h
  ·exact h
  ·rw [cU.bd b h] at hm;cases hm
 let H:Old:=fun k=>if∃l,ρ b=some l∧l.blk=k then none else w.heap[k]?
 have hH: ∀k,(¬ ∃l,ρ b=some l∧l.blk=k)→H k=w.heap[k]? :=fun k hk=>if_neg hk;have hHs: ∀k o,H k=some o→w.heap[k]? =some o∧ ¬ ∃l,ρ b=some l∧l.blk=k:=fun k o e=>by
  by_cases hk: ∃l,ρ b=some l∧l.blk=k
  ·have:H k=none:=if_pos hk;rw [this] at e;cases e
  ·rw [hH k hk] at e;exact ⟨e,hk⟩
 have hfz: ∀k o,ρ.fz k=some o→H k=some o:=fun k o e=>by
  rw [hH k fun ⟨l,h1,h2⟩=>by
   have:=cU.sep b l h1 (by rw [hm];rfl);rw [h2,e] at this;cases this]
  exact cU.old k o e
 have hbare:ρ.bare.le (v8n H (ρ b)):=⟨fun _ _ e=>(by cases e),hfz,fun _ _ e=>(by cases e)⟩
 have key: ∀(n0:Nat) (u:Value),Yy ρ (.sla b A.sz 0 n0 (.un A.sz)) u→Yy (v8n H (ρ b)) (.sla 0 A.sz 0 n0 (.un A.sz)) u:=fun n0 u h1=>by
  cases h1 with
  | sla _ _ _ _ _ l c h hc cW=>exact .sla 0 _ 0 _ _ l c (by show (if (0:Nat)=0 then ρ b else none)=_;rw [if_pos rfl];exact h) hc cW
  | slan _ _ _ _=>exact .slan _ _ _ _
 have hargs1:Ws (Yy (v8n H (ρ b))) (.sla 0 A.sz 0 A.n (.un A.sz)::r) vals.toList:=by
  generalize vals.toList=us at cY;cases cY with
  | cons h1 h2=>
   refine .cons ?_ ?_
   ·exact key _ _ h1
   ·exact Ws.of h2.length fun i g1 g2=>(Jd 3 _ _ (List.all_eq_true.1 hr _ (List.getElem_mem g1)) (h2.get i g1 g2)).mono hbare
 have hget0: ∀l,v8n H (ρ b) 0=some l↔ρ b=some l:=fun l=>Iff.rfl;have dR: ∀c l,v8n H (ρ b) c=some l→c=0∧ρ b=some l:=fun c l e=>by
  have e:(if c=0 then ρ b else none)=some l:=e;by_cases hc:c=0
  ·rw [if_pos hc] at e;exact ⟨hc,e⟩
  ·rw [if_neg hc] at e;cases e
 have hm1:Yd (mem1 ty A.sz A.n A.get) 0=some ⟨rows A.n A.get,ty,some ⟨A.sz,A.n,.flat A.get⟩⟩:=Yx _ _ _;have dU:Rel (v8n H (ρ b)) (mem1 ty A.sz A.n A.get) 1 w:=by
  refine ⟨fun c l e=>by rw [(dR c l e).1];omega,fun c c' l l' e e' _ _ _=>by rw [(dR c l e).1,(dR c' l' e').1],fun c l ab e hc=> ?_,fun k o e=>(hHs k o e).1,fun c l e _=> ?_,fun c l e=>cU.real b l (dR c l e).2,fun c hc=> ?_,fun j l e=>by cases e⟩
  ·obtain ⟨rfl,e2⟩:=dR c l e;rw [hm1] at hc;obtain rfl:=Option.some.inj hc;have q:=cU.blk b l _ e2 hm;obtain ⟨q1,q2,q3,cs,el,q4,q5,q6⟩:=q;obtain ⟨a1,a2,a3⟩:=q3 A rfl;simp only at a1;subst a1;have q':Vt ρ w ⟨rows A.n A.get,ty,some ⟨A.sz,A.n,.flat A.get⟩⟩ l:=⟨q1,q2,fun B e=>by
    obtain rfl:=Option.some.inj e;exact ⟨rfl,a2,a3⟩,cs,el,q4,q5,q6⟩
   exact q'.pl (w6n hp) _
  ·obtain ⟨_,e2⟩:=dR c l e;exact if_pos ⟨l,e2,rfl⟩
  ·show Yd (Xi .leaf 0 _) c=none;rw [Zw _ _ (by omega)];rfl
 have dX: ∀k o,w.heap[k]? =some o→(∃l0,ρ b=some l0∧l0.blk=k)∨H k=some o:=fun k o e=>by
  by_cases hk: ∃l',ρ b=some l'∧l'.blk=k
  ·exact .inl hk
  ·exact .inr ((hH k hk).trans e)
 refine (hF A.sz A.n A.get r n' g hv hp hp' hsz H (ρ b) vals w hargs1 dU dX).mono fun e w' ⟨ρ1,u,m',nx,b1,ty',he,hu,hmb,hr1,hfz1,fH,hos,htape,hout⟩=> ?_;have hgone: ∀k,(¬ ∃l,ρ b=some l∧l.blk=k)→ ∀o,w.heap[k]? =some o→w'.heap[k]? =some o∧ρ1.fz k=some o:=fun k hk o e=>by have h2:=hfz1 k o ((hH k hk).trans e);exact ⟨hr1.old k o h2,h2⟩
 let ρ':Rho:=⟨fun c=>if c=next then ρ1 b1 else ρ c,ρ.fz,ρ.lp⟩
 have dD: ∀c l,ρ' c=some l→(c=next∧ρ1 b1=some l)∨(c≠next∧ρ c=some l):=fun c l e=>by
  have e:(if c=next then ρ1 b1 else ρ c)=some l:=e;by_cases hc:c=next
  ·rw [if_pos hc] at e;exact .inl ⟨hc,e⟩
  ·rw [if_neg hc] at e;exact .inr ⟨hc,e⟩
 have hnew:ρ' next=ρ1 b1:=if_pos rfl
 have holdc: ∀c,c<next→ρ' c=ρ c:=fun c hc=>if_neg (by omega)
 have hle:ρ.le ρ':=⟨fun c l e=>by rw [holdc c (cU.dom c l e)];exact e,fun _ _ e=>e,fun _ _ e=>e⟩
 have hm': ∀c,c≠next→Yd (Xi (Xi mem b none) next (some ⟨rows n' g,ty,some ⟨A.sz,n',.flat g⟩⟩)) c=if c=b then none else Yd mem c:=fun c hc=>by
  rw [Zw _ _ hc];by_cases hcb:c=b
  ·rw [if_pos hcb,hcb,Yx]
  ·rw [if_neg hcb,Zw _ _ hcb]
 have hmn:Yd (Xi (Xi mem b none) next (some ⟨rows n' g,ty,some ⟨A.sz,n',.flat g⟩⟩)) next=some ⟨rows n' g,ty,some ⟨A.sz,n',.flat g⟩⟩:=Yx _ _ _
 have hother: ∀c l,ρ c=some l→(Yd mem c).isSome =true→c≠b→ ¬ ∃l',ρ b=some l'∧l'.blk=l.blk:=fun c l e hs hcb ⟨l',e',hb⟩=>hcb (cU.inj c b l l' e e' hb.symm hs (by rw [hm];rfl));have fA: ∀c l,ρ c=some l→ ∃o,w.heap[l.blk]? =some o:=fun c l e=>⟨_,Array.getElem?_eq_getElem (cU.real c l e)⟩
 have hsepn: ∀l,ρ1 b1=some l→ρ1.fz l.blk=none:=fun l e=>hr1.sep b1 l e (by rw [hmb];rfl);have dI:Yy ρ' (.sla next A.sz 0 n' (.un A.sz)) u:=by
  cases hu with
  | sla _ _ _ _ _ l c h hc cW=>exact .sla next _ 0 _ _ l c (hnew.trans h) hc cW
  | slan _ _ _ _=>exact .slan _ _ _ _
 refine ⟨ρ',u,he,dI,?_,?_⟩
 ·refine ⟨fun c l e=> ?_,fun c c' l l' e e' hbl hs hs'=> ?_,fun c l ab e hc=> ?_,fun k o e=> ?_,fun c l e hs=> ?_,fun c l e=> ?_,fun c hc=> ?_,fun j l e=>Nat.lt_succ_of_lt (cU.ldom j l e)⟩
  ·rcases dD c l e with ⟨rfl,_⟩ | ⟨_,e⟩
   ·omega
   ·have:=cU.dom c l e;omega
  ·have clash: ∀c l l',c≠next→ρ c=some l→ρ1 b1=some l'→l.blk=l'.blk→(Yd (Xi (Xi mem b none) next (some ⟨rows n' g,ty,some ⟨A.sz,n',.flat g⟩⟩)) c).isSome =true→False:=fun c l l' hc e e' hbl hs=>by
    rw [hm' c hc] at hs;by_cases hcb:c=b
    ·rw [if_pos hcb] at hs;cases hs
    ·rw [if_neg hcb] at hs;obtain ⟨o,ho⟩:=fA c l e;have:=(hgone l.blk (hother c l e hs hcb) o ho).2;rw [hbl,hsepn l' e'] at this;cases this
   rcases dD c l e with ⟨h1,h2⟩ | ⟨h1,h2⟩ <;> rcases dD c' l' e' with ⟨h1',h2'⟩ | ⟨h1',h2'⟩
   ·rw [h1,h1']
   ·exact (clash c' l' l h1' h2' h2 hbl.symm hs').elim
   ·exact (clash c l l' h1 h2 h2' hbl hs).elim
   ·rw [hm' c h1] at hs;rw [hm' c' h1'] at hs';by_cases hcb:c=b
    ·rw [if_pos hcb] at hs;cases hs
    ·by_cases hcb':c'=b
     ·rw [if_pos hcb'] at hs';cases hs'
     ·rw [if_neg hcb] at hs;rw [if_neg hcb'] at hs';exact cU.inj c c' l l' h2 h2' hbl hs hs'
  ·rcases dD c l e with ⟨h1,h2⟩ | ⟨h1,h2⟩
   ·subst h1;rw [hmn] at hc;obtain rfl:=Option.some.inj hc;have q:=(hr1.blk b1 l _ h2 hmb).pl (w6n hp') ρ';exact ⟨q.n,q.tot,q.arr,q.cells⟩
   ·rw [hm' c h1] at hc;by_cases hcb:c=b
    ·rw [if_pos hcb] at hc;cases hc
    ·rw [if_neg hcb] at hc;obtain ⟨o,ho⟩:=fA c l h2;refine (cU.blk c l ab h2 hc).world hle ?_;rw [(hgone l.blk (hother c l h2 (by rw [hc];rfl) hcb) o ho).1,ho]
  ·have h1:=hfz k o e;obtain ⟨h2,h3⟩:=hHs k o h1;exact (hgone k h3 o h2).1
  ·rcases dD c l e with ⟨h1,h2⟩ | ⟨h1,h2⟩
   ·cases hq:ρ.fz l.blk with
    | none=>rfl
    | some o=>exfalso;have h1:=hfz _ _ hq;have h3:=hfz1 l.blk o h1;rw [hsepn l h2] at h3;cases h3
   ·rw [hm' c h1] at hs;by_cases hcb:c=b
    ·rw [if_pos hcb] at hs;cases hs
    ·rw [if_neg hcb] at hs;exact cU.sep c l h2 hs
  ·rcases dD c l e with ⟨h1,h2⟩ | ⟨h1,h2⟩
   ·exact hr1.real b1 l h2
   ·exact Nat.lt_of_lt_of_le (cU.real c l h2) fH
  ·rw [hm' c (by omega),if_neg (by omega)];exact cU.bd c (by omega)
 ·refine ⟨hle,fun c hc=>holdc c hc,by omega,fun c hc hn cs ty2 hq=> ?_,fun k o hk hn=> ?_,fun c l hc e=> ?_,fH,hos,htape,hout,fun k _=>rfl⟩
  ·rw [hm' c (by omega)];by_cases hcb:c=b
   ·rw [hcb,hm] at hq;cases hq
   ·rw [if_neg hcb];exact hq
  ·exact (hgone k (fun ⟨l,h1,h2⟩=>hn b l h1 hfl h2) o hk).1
  ·rcases dD c l e with ⟨h1,h2⟩ | ⟨h1,h2⟩
   ·rcases Nat.lt_or_ge l.blk w.heap.size with h | h
    ·rcases dX l.blk _ (Array.getElem?_eq_getElem h) with ⟨l0,h3,h4⟩ | h3
     ·exact .inr ⟨b,l0,h3,hfl,h4⟩
     ·have h4:=hfz1 _ _ h3;rw [hsepn l h2] at h4;cases h4
    ·exact .inl h
   ·have:=cU.dom c l h2;omega
theorem y4t {S:Specs} {R:Runner} (hS:Zu P S) (hR:ROk P R) {lift:Bool} {f:FuncId} {args:List AVal} {cx:Ctx} {st st':St} {v:AVal} (hcx:cx.floor≤st.next) (h:w4q P S R lift f args cx st=some (v,st')) (hob:st'.ob=true)
  {vals:Array Value} (cY:Ws (Yy ρ) args vals.toList) {w:World} (cU:Rel ρ st.mem st.next w):
  (∃fn,P.funcs[f]? =some fn∧fn.body.isSome=true)∧Calls P f vals w fun e w'=> ∃ρ' u,e=.returned u∧x0p ρ cx.floor st st' v w ρ' u w':=by
 unfold w4q at h;split at h
 ·rename_i F hF;rcases Uf h with ⟨hca,h⟩ | ⟨_,h⟩
  ·split at h
   ·rename_i v' b hFa;obtain ⟨hc2,h⟩:=Zo h;have hc1:=List.all_eq_true.1 hca;simp only [Option.map_eq_some_iff,Prod.mk.injEq] at h;obtain ⟨st1,h1,rfl,rfl⟩:=h;obtain ⟨_,e2,e3,e4⟩:=Xc h1;obtain ⟨rfl,_⟩:=e4 hob;obtain ⟨hfn,dK⟩:=hS f _ hF;refine ⟨hfn,?_⟩;have hargs0:Ws (Yy ρ.bare) args vals.toList:=Ws.of cY.length fun i g1 g2=>Jd 3 _ _ (hc1 _ (List.getElem_mem g1)) (cY.get i g1 g2);refine (dK args v' hFa ρ.fz vals w hargs0 cU.old).mono fun e w' ⟨H',u,hle,hold,dG,he,hv,hb⟩=>⟨⟨ρ.f,H',ρ.lp⟩,u,he,Yy.mono (ρ:=z3b H') (ρ':=⟨ρ.f,H',ρ.lp⟩) ⟨fun _ _ e=>(by cases e),fun _ _ e=>e,fun _ _ e=>(by cases e)⟩ hv,?_,?_⟩
    ·rw [e2,e3];have hle':ρ.le ⟨ρ.f,H',ρ.lp⟩:=⟨fun _ _ e=>e,hle,fun _ _ e=>e⟩
     exact ⟨cU.dom,cU.inj,fun b l ab q1 q2=>(cU.blk b l ab q1 q2).world hle' (hb.block _ (cU.real b l q1)),hold,fun b l q hs=>(dG _ (cU.real b l q)).trans (cU.sep b l q hs),fun b l q=>Nat.lt_of_lt_of_le (cU.real b l q) hb.size,cU.bd,cU.ldom⟩
    ·rw [e2,e3];exact ⟨⟨fun _ _ e=>e,hle,fun _ _ e=>e⟩,fun _ _=>rfl,Nat.le_refl _,fun _ _ _ _ _ h=>h,fun k o hk _=>by rw [hb.block k (Array.getElem?_eq_some_iff.1 hk).1];exact hk,
      fun b l hb' hl=>by have:=cU.dom b l hl;omega,hb.size,hb.os,hb.tape,hb.output,dG⟩
   ·cases h
  ·split at h;rename_i args' o hview;split at h
   ·rename_i v' b hFa;obtain ⟨hc,h⟩:=Zo h;simp only [Bool.and_eq_true] at hc;simp only [Option.map_eq_some_iff,Prod.mk.injEq] at h;obtain ⟨st1,h1,rfl,rfl⟩:=h;obtain ⟨_,e2,e3,e4⟩:=Xc h1;obtain ⟨hob1,_⟩:=e4 hob;simp only [Bool.and_eq_true] at hob1;obtain ⟨ho,rfl⟩:=hob1;obtain ⟨hfn,dK⟩:=hS f _ hF;refine ⟨hfn,?_⟩;have hargs0:=x3w cU cY hview ho hc.1;refine (dK args' v' hFa (fun k=>w.heap[k]?) vals w hargs0 fun _ _ e=>e).mono fun e w' ⟨H',u,hle,hold,dG,he,hv,hb⟩=>⟨ρ,u,he,w1z hc.2 hv,?_,?_⟩
    ·rw [e2,e3];exact ⟨cU.dom,cU.inj,fun b l ab q1 q2=>(cU.blk b l ab q1 q2).world (Rho.le_refl _) (hb.block _ (cU.real b l q1)),fun k o q=>by rw [hb.block k (Array.getElem?_eq_some_iff.1 (cU.old k o q)).1];exact cU.old k o q,cU.sep,fun b l q=>Nat.lt_of_lt_of_le (cU.real b l q) hb.size,cU.bd,cU.ldom⟩
    ·rw [e2,e3];exact ⟨Rho.le_refl _,fun _ _=>rfl,Nat.le_refl _,fun _ _ _ _ _ h=>h,fun k o hk _=>by rw [hb.block k (Array.getElem?_eq_some_iff.1 hk).1];exact hk,
      fun b l hb' hl=>by have:=cU.dom b l hl;omega,hb.size,hb.os,hb.tape,hb.output,fun _ _=>rfl⟩
   ·cases h
 ·rename_i F hF;split at h
  ·rename_i v0 b blk o hFa;split at h
   ·rename_i ab hm;obtain ⟨hc,h⟩:=Zo h;simp only [Bool.and_eq_true] at hc;simp only [Option.map_eq_some_iff,Prod.mk.injEq] at h;obtain ⟨st1,h1,rfl,rfl⟩:=h;obtain ⟨_,e2,e3,e4⟩:=Xc h1;obtain ⟨rfl,_⟩:=e4 hob;obtain ⟨hfn,dK⟩:=hS f _ hF;refine ⟨hfn,?_⟩;refine (dK args st.mem v0 b blk hFa (by rw [hm];rfl) ρ st.next cx.floor vals w (Nat.le_of_ble_eq_true hc.2) cY cU).mono fun e w' ⟨u,he,hv,hr,hev⟩=>⟨ρ,u,he,hv,?_,?_⟩
    ·rw [e2,e3];exact hr
    ·rw [e2,e3];exact hev
   ·cases h
  ·cases h
 ·rename_i ty0 F hF;split at h
  ·rename_i b sz n sz' r;split at h
   ·rename_i cells ty A hm;obtain ⟨hc,h⟩:=Zo h;simp only [Bool.and_eq_true] at hc;obtain ⟨⟨c0,c1,c2⟩,c4,c5,c6⟩:=hc;have c0:=Nat.eq_of_beq_eq_true c0;split at h
    ·rename_i n' g o hFa;simp only [Option.map_eq_some_iff,Prod.mk.injEq] at h;obtain ⟨st1,h1,rfl,rfl⟩:=h;obtain ⟨env,mem,next,orc,ob⟩:=st;simp only at h1 hm hcx cU ⊢;obtain ⟨_,e2,e3,e4⟩:=Xc h1;obtain ⟨hob1,_⟩:=e4 hob;simp only [Bool.and_eq_true] at hob1;obtain ⟨rfl,c3,hp,hp'⟩:=hob1;obtain ⟨hfn,dK⟩:=hS f _ hF;rw [←c0] at dK;obtain rfl:=Nat.eq_of_beq_eq_true c1;refine ⟨hfn,?_⟩;refine (w9k dK hm ⟨Nat.eq_of_beq_eq_true c2,Nat.eq_of_beq_eq_true c3⟩ c4 (Nat.le_of_ble_eq_true c5) (Nat.le_of_ble_eq_true c6) hFa hp hp' cY cU).mono fun e w' ⟨ρ',u,he,hv,hr,hev⟩=>⟨ρ',u,he,hv,?_,?_⟩
     ·rw [e2,e3];exact hr
     ·rw [e2,e3];exact hev
    ·cases h
   ·cases h
  ·cases h
 ·split at h
  ·rename_i fn hf;split at h
   ·rename_i body hb;split at h
    ·rename_i st2 hr;split at h
     ·rename_i vs hvs;simp only [Option.some.injEq,Prod.mk.injEq] at h;obtain ⟨rfl,rfl⟩:=h;refine ⟨⟨fn,hf,by rw [hb];rfl⟩,?_⟩;intro cs
      let b:Frame:={(default:Frame) with fn:=f,kind:=.normal}
      have fB:Frame.enter P f vals .normal =b.at {tmps:=vals++Array.replicate (fn.ntmps - vals.size) undef,defers:=[]} [.code body]:=by simp [Frame.enter,Frame.at,hf,hb,b]
      obtain ⟨ρ',a',todo',w',dL,hd,cZ,dQ,hev⟩:=hR _ _ _ _ (by
       cases lift with
       | false=>exact hcx
       | true=>exact Nat.le_refl _) hr hob ρ {tmps:=vals++Array.replicate (fn.ntmps - vals.size) undef,defers:=[]} w b cs rfl (y3w cY fn.ntmps) cU
      obtain ⟨u,hu,fF⟩:=z1t cZ dQ hvs;rw [←fB] at dL;refine ⟨.returned u,w',_,⟨ρ',u,rfl,hu,dQ,?_⟩,dL,rfl,rfl,hd,rfl,fn,hf,fF⟩;refine hev.lower ?_;cases lift with
      | false=>exact Nat.le_refl _
      | true=>exact hcx
     ·cases h
    ·cases h
   ·cases h
  ·cases h
theorem x0g {S:Specs} {R:Runner} (hN:z7u P) (hS:Zu P S) (hR:ROk P R) {lift:Bool} {o:Oper} {cx:Ctx} {st st':St} {v:AVal} (hcx:cx.floor≤st.next)
  (h:Wa P S R lift o.op cx st=some (v,st')) (hob:st'.ob=true) {ev:Operand→AVal} (hev: ∀x,x∈o.op.operands→ev x=st.eval x) {a:Act} (hr:Kn ρ ev a.eval o.op) {w:World} (cU:Rel ρ st.mem st.next w):
  Does P o a w (x0p ρ cx.floor st st' v w):=by
 obtain ⟨dst,op,type,pos,after,guard⟩:=o;simp only at h hr hev
 replace hr:Kn ρ st.eval a.eval op:=fun x hx=>by rw [←hev x hx];exact hr x hx
 clear hev;unfold Wa at h;split at h
 ·rename_i t x;split at h
  ·rename_i v' b st0 hv;obtain ⟨l1,l2,l3,l4⟩:=z2j hv;simp only [Option.map_eq_some_iff,Prod.mk.injEq] at h;obtain ⟨st1,h1,rfl,rfl⟩:=h;obtain ⟨e1,e2,e3,e4⟩:=Xc h1;obtain ⟨rfl,hob0⟩:=e4 hob;obtain ⟨z,hz,cX⟩:=z9w cU (l4 hob0).1 (hr x (by simp [Op.operands]));exact .inl ⟨ρ,z,w,by simp [execOp,cX],hz,by rw [e2,e3,l2,l3];exact cU,by rw [e2,e3,l2,l3];exact Ev.refl _ _ _ _ _ cU.dom⟩
  ·cases h
 ·rename_i t;simp only [Option.map_eq_some_iff,Prod.mk.injEq] at h;obtain ⟨z,hz,rfl,rfl⟩:=h;obtain ⟨_,zv,_,_,hzr,hzv⟩:=Wv (ρ:=ρ) hz;refine .inl ⟨_,.pointer (some ⟨w.heap.size,0,none⟩),_,?_,z4e cU cx.floor z t zv.cells t (by rw [hzr.1];exact Nat.le_refl _) hzr.2 _ _ fun ρ' hρ'=>.ptr _ 0 _ hρ'⟩;simp [execOp,Instr.alloc,hzv,newVar,newRow]
 ·rename_i t x;obtain ⟨hbx,h⟩:=Zo h;simp only [Option.some.injEq,Prod.mk.injEq] at h;obtain ⟨rfl,rfl⟩:=h;have hc:=(hr x (by simp [Op.operands])).cells hbx;refine .inl ⟨_,.pointer (some ⟨w.heap.size,0,none⟩),_,?_,z4e cU cx.floor _ t (a.eval x).cells t (by rw [hc.1];exact Nat.le_refl _) hc.2 _ _ fun ρ' hρ'=>.ptr _ 0 _ hρ'⟩;simp [execOp,Instr.box,newVar,newRow]
 ·rename_i t len parts;obtain ⟨ρ',u,w',cX,hp,_,_⟩:=z9a cU cx.floor h (z1u parts.toList fun p hp=>hr p.2 (by simp only [Op.operands,List.mem_toArray,List.mem_map];exact ⟨p,hp,rfl⟩));refine .inl ⟨ρ',u,w',?_,hp⟩;have:(parts.map fun (i,x)=>(i,a.eval x))=(parts.toList.map fun p=>(p.1,a.eval p.2)).toArray :=by apply Array.ext';simp
  simp [execOp,this,cX]
 ·rename_i t x y;split at h
  ·rename_i b sz r fo hb;simp only [Option.map_eq_some_iff,Prod.mk.injEq] at h;obtain ⟨st1,h,rfl,rfl⟩:=h;have hx:=hr x (by simp [Op.operands]);rw [hb] at hx;obtain ⟨w',cX,hp⟩:=x0c cU h hob hx (hr y (by simp [Op.operands]));exact .inr (.inl ⟨ρ,w',by simp [execOp,cX],hp⟩)
  ·simp only [Option.map_eq_some_iff,Prod.mk.injEq] at h;obtain ⟨st1,h,rfl,rfl⟩:=h;obtain ⟨w',cX,hp,_,_⟩:=x2y cU h (hr x (by simp [Op.operands])) (hr y (by simp [Op.operands]));exact .inr (.inl ⟨ρ,w',by simp [execOp,cX],hp⟩)
 ·rename_i t l c;rcases Uf h with ⟨_,h⟩ | ⟨_,h⟩
  ·rcases Uf h with ⟨_,h⟩ | ⟨_,h⟩
   ·obtain ⟨ρ',u,w',cX,hp,_,_⟩:=Kf (st:=st.dropO) cU cx.floor h (hr l (by simp [Op.operands])) (hr c (by simp [Op.operands]));exact .inl ⟨ρ',u,w',by simp [execOp,cX],hp.val,hp.rel,hp.ev⟩
   ·obtain ⟨ρ',u,w',cX,hp⟩:=z8x (st:=st.dropO) cU h hob (hr l (by simp [Op.operands])) (hr c (by simp [Op.operands]));exact .inl ⟨ρ',u,w',by simp [execOp,cX],hp.val,hp.rel,hp.ev⟩
  ·obtain ⟨ρ',u,w',cX,hp,_,_⟩:=Kf cU cx.floor h (hr l (by simp [Op.operands])) (hr c (by simp [Op.operands]));exact .inl ⟨ρ',u,w',by simp [execOp,cX],hp⟩
 ·rename_i args argTypes;have cY:Ws (Yy ρ) (args.toList.map st.eval) (args.map a.eval).toList :=by rw [Array.toList_map];exact Ws.maps _ _ _ fun x hx=>hr x (by simp [Op.operands,Call.operands];exact Array.mem_toList_iff.1 hx)
  unfold z0n at h;rcases Uf h with ⟨_,h⟩ | ⟨_,h⟩
  ·obtain ⟨ρ',u,w',cX,hp⟩:=y5n (type:=type) cU h hob cY;exact .inl ⟨ρ',u,w',by simp [execOp,resolve,invoke,builtin,cX],hp⟩
  split at h
  ·rename_i hxs;obtain ⟨ρ',u,w',cX,hp,_⟩:=z4x (type:=type) cU h hob (hxs ▸ cY);exact .inl ⟨ρ',u,w',by simp [execOp,resolve,invoke,builtin,cX],hp⟩
  ·obtain ⟨ρ',u,w',cX,hp,_,_⟩:=Qx (type:=type) cU cx.floor h cY;exact .inl ⟨ρ',u,w',by simp [execOp,resolve,invoke,builtin,cX],hp⟩
 ·rename_i args argTypes;have cY:Ws (Yy ρ) (args.toList.map st.eval) (args.map a.eval).toList :=by rw [Array.toList_map];exact Ws.maps _ _ _ fun x hx=>hr x (by simp [Op.operands,Call.operands];exact Array.mem_toList_iff.1 hx)
  unfold y7x at h;split at h
  ·rename_i b sz off len cap x xs hxs;obtain ⟨ρ',u,w',cX,hp⟩:=z9x (type:=type) (d:=.sla b sz off len cap) cU h hob (hxs ▸ cY) fun u hu=>by
    cases hu with
    | sla _ _ _ _ _ l c hρ _ cW=>exact .inl ⟨l,c,hρ,cW,rfl⟩
    | slan=>exact .inr ⟨rfl,none,0,rfl⟩
   exact .inl ⟨ρ',u,w',by simp [execOp,resolve,invoke,builtin,cX],hp⟩
  ·rename_i b sz off len x xs hxs;obtain ⟨ρ',u,w',cX,hp⟩:=z9x (type:=type) (d:=.slv b sz off len) cU h hob (hxs ▸ cY) fun u hu=>by
    cases hu with
    | slv _ _ _ _ l c hρ cW=>exact .inl ⟨l,c,hρ,cW,rfl⟩
    | slve _ _ _ blk base c=>exact .inr ⟨rfl,_,_,rfl⟩
    | slvn=>exact .inr ⟨rfl,none,0,rfl⟩
   exact .inl ⟨ρ',u,w',by simp [execOp,resolve,invoke,builtin,cX],hp⟩
  ·obtain ⟨ρ',u,w',cX,hp,_,_⟩:=x8f (type:=type) cU cx.floor h cY;exact .inl ⟨ρ',u,w',by simp [execOp,resolve,invoke,builtin,cX],hp⟩
 ·rename_i args argTypes;have cY:Ws (Yy ρ) (args.toList.map st.eval) (args.map a.eval).toList :=by rw [Array.toList_map];exact Ws.maps _ _ _ fun x hx=>hr x (by simp [Op.operands,Call.operands];exact Array.mem_toList_iff.1 hx)
  obtain ⟨ρ',u,w',cX,hp,_,_⟩:=x3e (type:=type) cU cx.floor h cY;exact .inl ⟨ρ',u,w',by simp [execOp,resolve,invoke,builtin,cX],hp⟩
 ·rename_i f args argTypes;split at h
  ·rename_i g caps hg;have hf:=hr f (by simp [Op.operands,Call.operands]);rw [hg] at hf;generalize hw:a.eval f=u at hf;cases hf with
   | fn _ _ cvs hl hh=>
    have cY:Ws (Yy ρ) (args.toList.map st.eval++caps) (args.map a.eval++cvs).toList :=by rw [Array.toList_append,Array.toList_map];exact Ws.append (Ws.maps _ _ _ fun x hx=>hr x (by simp [Op.operands,Call.operands];exact .inr (Array.mem_toList_iff.1 hx))) (Ws.of (by simpa using hl) fun i h1 h2=>by simpa using hh i h1 (by simpa using h2))
    obtain ⟨⟨fn,hfn,hb⟩,hc⟩:=y4t hS hR hcx h hob cY cU;refine .inr (.inr ⟨g,args.map a.eval++cvs,?_,hc⟩);have:=z1c hN hfn hb (args.map a.eval++cvs) w;simp [execOp,resolve,Deferred.ofValue,hw,invoke,this]
  ·rename_i g first hg
   have hf:=hr f (by simp [Op.operands,Call.operands]);rw [hg] at hf;generalize hw:a.eval f=u at hf;cases hf with
   | fnb _ _ cvs hl hh=>
    have cY:Ws (Yy ρ) (first++args.toList.map st.eval) (cvs++args.map a.eval).toList :=by rw [Array.toList_append,Array.toList_map];exact Ws.append (Ws.of (by simpa using hl) fun i h1 h2=>by simpa using hh i h1 (by simpa using h2)) (Ws.maps _ _ _ fun x hx=>hr x (by simp [Op.operands,Call.operands];exact .inr (Array.mem_toList_iff.1 hx)))
    obtain ⟨⟨fn,hfn,hb⟩,hc⟩:=y4t hS hR hcx h hob cY cU;refine .inr (.inr ⟨g,cvs++args.map a.eval,?_,hc⟩);have:=z1c hN hfn hb (cvs++args.map a.eval) w;simp [execOp,resolve,Deferred.ofValue,hw,invoke,this]
  ·cases h
 ·cases h
end
end Go.Am
namespace Go.Am
section
variable {P:Program} {ρ:Rho}
theorem Wq.congr {env env':T AVal} {n:Nat} {tmps:Array Value} (h:Wq ρ env n tmps) (he: ∀t,T.get .undef env' t=T.get .undef env t):Wq ρ env' n tmps:=
 ⟨h.size,fun i=>by rw [he];exact h.get i,fun i hi=>by rw [he];exact h.out i hi⟩
theorem Wq.eval {st:St} {n:Nat} {a:Act} (h:Wq ρ st.env n a.tmps) (x:Operand):Yy ρ (st.eval x) (a.eval x):=by
 cases x with
 | tmp t=>exact h.get t
 | const v=>exact w7v v
 | global g=>exact .undef _
 | func f=>exact .fn f [] #[] rfl fun i h1 _=>by simp at h1
theorem Wq.put {env env':T AVal} {n:Nat} {a:Act} (h:Wq ρ env n a.tmps) {dst:Option Tmp} {v:AVal} {u:Value} (hv:Yy ρ v u)
  (hp:(dst=none∧env'=env)∨ ∃d,dst=some d∧d<n∧env'=T.set .undef env d v):Wq ρ env' n (a.put dst u).tmps :=by
 rcases hp with ⟨rfl,rfl⟩ | ⟨d,rfl,hd,rfl⟩
 ·exact h
 ·have hsz:=h.size;refine ⟨by simp [Act.put,hsz],fun i=> ?_,fun i hi=> ?_⟩
  ·rw [T.get_set];by_cases hi:i=d
   ·subst hi;rw [if_pos rfl];have:i<a.tmps.size:=by rw [hsz];exact hd
    simpa [Act.put,this] using hv
   ·rw [if_neg hi];have:=h.get i
    simpa [Act.put,Array.getElem?_setIfInBounds_ne (Ne.symm hi)] using this
  ·rw [T.get_set,if_neg (Nat.ne_of_gt (Nat.lt_of_lt_of_le hd hi))];exact h.out i hi
theorem Act.put_defers' (a:Act) (dst:Option Tmp) (v:Value):(a.put dst v).defers =a.defers:=by cases dst <;> rfl
theorem w4k {ops:Array Oper} {o:Oper} {cx:Ctx} {st st':St} {e:Bool} (h:z7r ops o cx st=some (e,st')):st'.mem=st.mem∧st'.next=st.next∧(st'.ob=true→st.ob=true∧ ∀t,st'.tmp t=st.tmp t):=by
 unfold z7r at h;split at h
 ·simp only [Option.some.injEq,Prod.mk.injEq] at h;obtain ⟨_,rfl⟩:=h;exact ⟨rfl,rfl,fun h=>⟨h,fun _=>rfl⟩⟩
 ·split at h
  ·cases h
  ·rename_i d hd;split at h
   ·rename_i b hb;split at h;rename_i e1 st1 ht;split at h
    ·rename_i st2 hp;simp only [Option.some.injEq,Prod.mk.injEq] at h;obtain ⟨_,rfl⟩:=h;obtain ⟨t1,t2,t3,t4⟩:=y2b ht;obtain ⟨p1,p2,p3,p4⟩:=Wb hp;refine ⟨p1.trans t2,p2.trans t3,fun ho=> ?_⟩;rw [p3] at ho;obtain ⟨rfl,ho⟩:=t4 ho;refine ⟨ho,fun t=> ?_⟩;rcases p4 with ⟨e,_⟩ | ⟨d',e,_,he⟩
     ·cases e
     ·obtain rfl:=Option.some.inj e;show T.get .undef st2.env t=T.get .undef st.env t;rw [he,t1,T.get_set];split
      ·rename_i h;subst h;exact hb.symm
      ·rfl
    ·cases h
   ·simp only [Option.some.injEq,Prod.mk.injEq] at h;obtain ⟨_,rfl⟩:=h;exact ⟨rfl,rfl,fun h=>⟨h,fun _=>rfl⟩⟩
   ·cases h
def Um (ops:Array Oper) (o:Oper):Option Tmp:=o.guard.bind fun g=>(ops[g.1]?).bind (·.dst)
theorem x8a {ops:Array Oper} {o:Oper} {cx:Ctx} {st st':St} {e:Bool} (h:z7r ops o cx st=some (e,st')) (ho:st'.ob=true) {tmps:Array Value} (hsz:tmps.size=cx.n)
  (hr: ∀d,Um ops o=some d→Yy ρ (st.tmp d) (tmps.getD d undef)):Region.wanted o (yielded ops tmps)=e:=by
 unfold z7r at h;unfold Region.wanted;split at h
 ·rename_i hg;simp only [Option.some.injEq,Prod.mk.injEq] at h;obtain ⟨rfl,_⟩:=h;rw [hg]
 ·rename_i j want hg;rw [hg];simp only;split at h
  ·cases h
  ·rename_i d hd;have hrd:=hr d (by simp [Um,hg,hd]);split at h
   ·rename_i b hb;split at h;rename_i e1 st1 ht;split at h
    ·rename_i st2 hp;simp only [Option.some.injEq,Prod.mk.injEq] at h;obtain ⟨rfl,rfl⟩:=h;obtain ⟨_,_,_,t4⟩:=y2b ht;obtain ⟨_,_,p3,p4⟩:=Wb hp;rw [p3] at ho;obtain ⟨rfl,_⟩:=t4 ho;rcases p4 with ⟨e,_⟩ | ⟨d',e,hlt,_⟩
     ·cases e
     ·obtain rfl:=Option.some.inj e;rw [hb] at hrd;have hlt':d<tmps.size:=by rw [hsz];exact hlt
      have dD:tmps.getD d undef=tmps[d]:=(by simp [hlt']);rw [dD] at hrd;have:yielded ops tmps j=some e1:=by unfold yielded;rw [hd];simp only [Option.bind_some,Array.getElem?_eq_getElem hlt'];generalize tmps[d]=u at hrd;cases hrd;rfl
      rw [this];cases e1 <;> cases want <;> rfl
    ·cases h
   ·rename_i hb;simp only [Option.some.injEq,Prod.mk.injEq] at h;obtain ⟨rfl,rfl⟩:=h;rw [hb] at hrd;have:yielded ops tmps j=none:=by
     unfold yielded;rw [hd];simp only [Option.bind_some];by_cases hlt:d<tmps.size
     ·have dD:tmps.getD d undef=tmps[d]:=(by simp [hlt]);rw [dD] at hrd;rw [Array.getElem?_eq_getElem hlt];generalize tmps[d]=u at hrd;cases hrd;rfl
     ·rw [Array.getElem?_eq_none (Nat.le_of_not_lt hlt)]
    rw [this];rfl
   ·cases h
theorem z7m {cx:Ctx} {t:Nat} {kd:IntKind} {n:Int} {st st':St} (ht:st.tmp t=.int kd n) (h:st.conc cx t kd n=some st'):st'.mem=st.mem∧st'.next=st.next∧(st'.ob=true→st.ob=true∧ ∀t,st'.tmp t=st.tmp t):=by
 obtain ⟨env,mem,next,orc,ob⟩:=st;cases orc with
 | nil=>obtain rfl:=Option.some.inj h;exact ⟨rfl,rfl,fun h=>⟨h,fun _=>rfl⟩⟩
 | cons o r=>
  unfold St.conc at h;obtain ⟨_,h⟩:=Zo h;obtain rfl:=Option.some.inj h;refine ⟨rfl,rfl,fun ho=> ?_⟩;simp only [Bool.and_eq_true,decide_eq_true_eq] at ho;refine ⟨ho.2,fun k=> ?_⟩;show T.get .undef (T.set .undef env t _) k=T.get .undef env k;rw [T.get_set];split
  ·rename_i e;subst e;rw [←ho.1];exact ht.symm
  ·rfl
theorem w4o {o:Oper} {cx:Ctx} {st st':St} (h:v6u o cx st=some st'):st'.mem=st.mem∧st'.next=st.next∧(st'.ob=true→st.ob=true∧ ∀t,st'.tmp t=st.tmp t):=by
 have same:some st=some st'→st'.mem=st.mem∧st'.next=st.next∧(st'.ob=true→st.ob=true∧ ∀t,st'.tmp t=st.tmp t):=fun e=>by obtain rfl:=Option.some.inj e;exact ⟨rfl,rfl,fun h=>⟨h,fun _=>rfl⟩⟩
 unfold v6u at h;split at h
 ·split at h
  ·split at h
   ·rename_i ht;exact z7m ht h
   ·exact same h
  ·split at h
   ·rename_i ht;exact z7m ht h
   ·exact same h
  ·split at h
   ·rename_i ht;exact z7m ht h
   ·exact same h
  ·exact same h
 ·split at h
  ·split at h
   ·rename_i ht;exact z7m ht h
   ·exact same h
  ·exact same h
 ·exact same h
theorem Jf {ops:Array Oper} {o:Oper} {cx:Ctx} {st st':St} {e:Bool} (h:Ke ops o cx st=some (e,st')): ∃st1,z7r ops o cx st=some (e,st1)∧st'.mem=st1.mem∧st'.next=st1.next∧(st'.ob=true→st1.ob=true∧ ∀t,st'.tmp t=st1.tmp t)∧(Xy o.op=.alloc ∨e=false→st'=st1):=by
 unfold Ke at h;split at h
 ·rename_i st1 h1;split at h
  ·rename_i st2 h2;simp only [Option.some.injEq,Prod.mk.injEq] at h;obtain ⟨rfl,rfl⟩:=h;obtain ⟨c1,c2,c3⟩:=w4o h2;refine ⟨st1,h1,c1,c2,c3,fun hk=> ?_⟩;rcases hk with hk | hk
   ·unfold v6u at h2;split at h2
    ·rename_i ho;rw [ho] at hk;cases hk
    ·rename_i ho;rw [ho] at hk;cases hk
    ·exact (Option.some.inj h2).symm
   ·cases hk
  ·cases h
 ·exact ⟨st',h,rfl,rfl,fun h=>⟨h,fun _=>rfl⟩,fun _=>rfl⟩
theorem Wy {ops:Array Oper} {o:Oper} {cx:Ctx} {st st':St} {e:Bool} (h:Ke ops o cx st=some (e,st')):st'.mem=st.mem∧st'.next=st.next∧(st'.ob=true→st.ob=true∧ ∀t,st'.tmp t=st.tmp t):=by obtain ⟨st1,h1,c1,c2,c3,_⟩:=Jf h;obtain ⟨w1,w2,w3⟩:=w4k h1;exact ⟨c1.trans w1,c2.trans w2,fun ho=>⟨(w3 (c3 ho).1).1,fun t=>((c3 ho).2 t).trans ((w3 (c3 ho).1).2 t)⟩⟩
theorem Uh {ops:Array Oper} {o:Oper} {cx:Ctx} {st st':St} {e:Bool} (h:Ke ops o cx st=some (e,st')) (ho:st'.ob=true) {tmps:Array Value} (hsz:tmps.size=cx.n)
  (hg: ∀d,Um ops o=some d→Yy ρ (st.tmp d) (tmps.getD d undef)):Region.wanted o (yielded ops tmps)=e:=by
 obtain ⟨st1,h1,_,_,c3,_⟩:=Jf h;exact x8a h1 (c3 ho).1 hsz hg
structure u7j (P:Program) (cx:Ctx) (o:Oper) (st st':St) (v:AVal):Prop where
 ob:st.ob=true
 does: ∀(ρ:Rho) (a:Act) (w:World) (ev:Operand→AVal),(∀x,x∈o.op.operands→ev x=st.eval x)→Kn ρ ev a.eval o.op→Rel ρ st.mem st.next w→Does P o a w (x0p ρ cx.floor st st' v w)
 calm:(Xy o.op=.pure ∨Xy o.op=.read)→ ∀(ρ:Rho) (a:Act) (w:World) (ev:Operand→AVal) (mem:Mem) (next:Nat),(∀x,x∈o.op.operands→ev x=st.eval x)→Kn ρ ev a.eval o.op→Rel ρ mem next w→
  (∀t y b ab,o.op=.load t y→x5g o.op ev=some b→Yd st.mem b=some ab→Yd mem b=some ab)→ ∃u,(execOp a.eval o).run P w=.ok (.value u) w∧Yy ρ v u
theorem w8y {op:Op} {ev:Operand→AVal} {x:AVal×Bool} (h:Kx P op ev=some x):Xy op=.pure :=by
 cases op with
 | call c=>
  obtain ⟨callee,args,argTypes⟩:=c;cases callee with
  | builtin b=>cases b <;> first | rfl | (simp [Kx,y1x] at h)
  | value f=>simp [Kx] at h
  | invoke r m=>rfl
 | _=>first | rfl | (simp [Kx] at h;done)
theorem x5p {S:Specs} {R:Runner} (hN:z7u P) (hS:Zu P S) (hRI:x3p R) (hR:ROk P R) {lift:Bool} {o:Oper} {cx:Ctx} {st st':St} (hcx:cx.floor≤st.next) (h:z6u P S R lift o cx st=some st'):
  ∃v stm,stm.put cx o.dst v=some st'∧stm.env=st.env∧Xm cx.floor st stm∧((Xy o.op=.pure ∨Xy o.op=.read)→stm.mem=st.mem∧stm.next=st.next)∧
   (lift=true→Xy o.op=.call → ∀b,b<st.next→wrC S o.op st.eval≠some b→Yd stm.mem b=Yd st.mem b)∧
   (Xy o.op=.chain → ∀b,b<st.next→x0m o.op st.eval≠some b→Yd stm.mem b=Yd st.mem b)∧
   (Xy o.op=.alloc →v=.ptr st.next 0∧ ∃t z,o.op=.alloc t∧Kh P t=some z∧stm=z8w st z t)∧
   (st'.ob=true→u7j P cx o st stm v):=by
 unfold z6u at h;split at h
 ·rename_i v b hp;have hk:=w8y hp;split at h
  ·rename_i st1 h1;obtain ⟨e1,e2,e3,e4⟩:=Xc h1;refine ⟨v,st1,h,e1,Xm.same e2 e3 fun x=>(e4 x).2,fun _=>⟨e2,e3⟩,(fun _ hc=>by rw [hk] at hc;cases hc),(fun hc=>by rw [hk] at hc;cases hc),(fun hc=>by rw [hk] at hc;cases hc),fun ho=> ?_⟩;obtain ⟨_,_,p3,_⟩:=Wb h;rw [p3] at ho;obtain ⟨rfl,ho1⟩:=e4 ho;refine ⟨ho1,fun ρ a w ev hev hr cU=> ?_,fun _ ρ a w ev mem next hev hr cU hag=> ?_⟩
   ·have hr':Kn ρ st.eval a.eval o.op:=fun x hx=>by rw [←hev x hx];exact hr x hx
    obtain ⟨u,hu,cX⟩:=y4m hp rfl hr';exact .inl ⟨ρ,u,w,cX w,hu,by rw [e2,e3];exact cU,by rw [e2,e3];exact Ev.refl _ _ _ _ _ cU.dom⟩
   ·have hr':Kn ρ st.eval a.eval o.op:=fun x hx=>by rw [←hev x hx];exact hr x hx
    obtain ⟨u,hu,cX⟩:=y4m hp rfl hr';exact ⟨u,cX w,hu⟩
  ·cases h
 ·split at h
  ·rename_i v stm he;obtain ⟨fI,cZ⟩:=y4q hRI he;refine ⟨v,stm,h,cZ,fI,fun hk=> ?_,fun hl hk b hb hw=> ?_,fun hk b hb hn=>x3d hk hb hn he,fun hk=> ?_,fun ho=> ?_⟩
   ·obtain ⟨dst,op,type,pos,after,guard⟩:=o;simp only at hk he;cases op with
    | load t x=>
     simp only [Wa] at he;split at he
     ·rename_i hl;obtain ⟨l1,l2,l3,l4⟩:=z2j hl;simp only [Option.map_eq_some_iff,Prod.mk.injEq] at he;obtain ⟨_,h1,_,rfl⟩:=he;obtain ⟨_,e2,e3,_⟩:=Xc h1;exact ⟨e2.trans l2,e3.trans l3⟩
     ·cases he
    | call c=>
     obtain ⟨callee,args,argTypes⟩:=c;cases callee with
     | builtin b=>cases b <;> first | (simp [Wa] at he;done) | (simp [Xy] at hk;done)
     | value f=>simp [Xy] at hk
     | invoke r m=>simp [Wa] at he
    | _=>first | (simp [Wa] at he;done) | (simp [Xy] at hk;done)
   ·obtain ⟨dst,op,type,pos,after,guard⟩:=o;simp only at hk he;cases op with
    | call c=>
     obtain ⟨callee,args,argTypes⟩:=c;cases callee with
     | builtin b=>cases b <;> first | (simp [Wa] at he;done) | (simp [Xy] at hk;done)
     | value f=>
      simp only [Wa] at he;split at he
      ·rename_i g caps hf;exact (z7t hRI he).1.2 hl b hb (by simpa only [wrC,hf] using hw)
      ·rename_i g first hf
       exact (z7t hRI he).1.2 hl b hb (by simpa only [wrC,hf] using hw)
      ·cases he
     | invoke r m=>simp [Wa] at he
    | _=>first | (simp [Wa] at he;done) | (simp [Xy] at hk;done)
   ·obtain ⟨dst,op,type,pos,after,guard⟩:=o;simp only at hk he;cases op with
    | alloc t=>simp only [Wa,Option.map_eq_some_iff,Prod.mk.injEq] at he;obtain ⟨z,hz,rfl,rfl⟩:=he;exact ⟨rfl,t,z,rfl,hz,rfl⟩
    | call c=>
     obtain ⟨callee,args,argTypes⟩:=c;cases callee with
     | builtin b=>cases b <;> first | (simp [Wa] at he;done) | (simp [Xy] at hk;done)
     | value f=>simp [Xy] at hk
     | invoke r m=>simp [Wa] at he
    | _=>first | (simp [Wa] at he;done) | (simp [Xy] at hk;done)
   ·obtain ⟨_,_,p3,_⟩:=Wb h;rw [p3] at ho;refine ⟨fI.ob ho,fun ρ a w ev hev hr cU=>x0g hN hS hR hcx he ho hev hr cU,fun hk ρ a w ev mem next hev hr cU hag=> ?_⟩;obtain ⟨dst,op,type,pos,after,guard⟩:=o;simp only at hk he hev hr hag;cases op with
    | load t x=>
     simp only [Wa] at he;split at he
     ·rename_i v' bb st0 hv;obtain ⟨l1,l2,l3,l4⟩:=z2j hv;simp only [Option.map_eq_some_iff,Prod.mk.injEq] at he;obtain ⟨st1,h1,rfl,rfl⟩:=he;obtain ⟨_,_,_,e4⟩:=Xc h1;obtain ⟨rfl,hob0⟩:=e4 ho;have hv:=(l4 hob0).1;have hx:x∈(Op.load t x).operands :=(by simp [Op.operands]);have hl:y4p P mem t (ev x)=some (v',true):=by
       rw [hev x hx];have hag': ∀b ab,x5g (.load t x) st.eval=some b→Yd st.mem b=some ab→Yd mem b=some ab:=fun b ab q1 q2=>hag t x b ab rfl (by simp only [x5g,hev x hx] at q1 ⊢;exact q1) q2;unfold y4p at hv ⊢;split at hv
       ·rename_i b sz r fo hb;simp only [x5g,hb] at hag';split at hv
        ·rename_i ab hm;rw [hag' b ab rfl hm];exact hv
        ·cases hv
       ·rename_i y hy;unfold x8d at hv ⊢;split at hv
        ·rename_i b off hb;simp only [x5g,hb] at hag';split at hv
         ·rename_i ab hm;rw [hag' b ab rfl hm];exact hv
         ·cases hv
        ·exact hv
        ·cases hv
      obtain ⟨z,hz,cX⟩:=z9w cU hl (hr x hx);exact ⟨z,by simp [execOp,cX],hz⟩
     ·cases he
    | call c=>
     obtain ⟨callee,args,argTypes⟩:=c;cases callee with
     | builtin b=>cases b <;> first | (simp [Wa] at he;done) | (simp [Xy] at hk;done)
     | value f=>simp [Xy] at hk
     | invoke r m=>simp [Wa] at he
    | _=>first | (simp [Wa] at he;done) | (simp [Xy] at hk;done)
  ·cases h
theorem z5i {S:Specs} {R:Runner} {ops:Array Oper} {cx:Ctx} {x:Bool×Oper} {l:List (Bool×Oper)} {st:St}:y6w P S R ops cx (x::l) st=(y5f P S R ops cx x st).bind (y6w P S R ops cx l):=by
 show (match Ke ops x.2 cx st with
  | none=>none
  | some (true,st)=>match z6u P S R x.1 x.2 cx st with
   | some st=>y6w P S R ops cx l st
   | none=>none
  | some (false,st)=>match st.put cx x.2.dst (.tup []) with
   | some st=>y6w P S R ops cx l st
   | none=>none)=_
 unfold y5f;cases h:Ke ops x.2 cx st with
 | none=>rfl
 | some y=>
  obtain ⟨e,st1⟩:=y;cases e with
  | true=>simp only [];cases z6u P S R x.1 x.2 cx st1 <;> rfl
  | false=>simp only [];cases st1.put cx x.2.dst (.tup []) <;> rfl
theorem Does.wp2 {o:Oper} {a:Act} {w:World} {K:Rho→Value→World→Prop} {next:Act→World→Prop} {Q:Exit→Act→World→Prop} (h:Does P o a w K)
  (hk: ∀ρ' u w',K ρ' u w'→((execOp a.eval o).run P w=.ok (.value u) w'∨ ∀u w',(execOp a.eval o).run P w≠ .ok (.value u) w')→next (a.put o.dst u) w'):o.wp P a w next Q:=by
 unfold Oper.wp;rcases h with ⟨ρ',u,w',e,k⟩ | ⟨ρ',w',e,k⟩ | ⟨f,args,e,hc⟩
 ·have:=hk _ _ _ k (.inl e);rw [e];exact this
 ·have:=hk _ _ _ k (.inr fun u w' e2=>by rw [e] at e2;injection e2 with e3;cases e3);rw [e];exact this
 ·rw [e];exact hc.mono fun e' w' ⟨ρ',u,he,k⟩=>by subst he;exact hk _ _ _ k (.inr fun u w' e2=>by rw [e] at e2;injection e2 with e3;cases e3)
theorem w1o (m:Mem) (sz:Nat) (zero:List AVal) (ut:TypeDesc) (b o n:Nat) (c:w4t):y8g m sz zero ut (.sl b o n c)=none:=by cases ut <;> rfl
theorem v1e {cx:Ctx} {st:St} {ts:List TypeId} {s:AVal} {b o n:Nat} {c:w4t} {r:List AVal}:Qw P cx st ts (s::.sl b o n c::r)=none:=by
 unfold Qw;split
 ·rename_i t u tr s' x r' e;cases e;split
  ·split
   ·simp only [w1o];split
    ·rename_i e;cases e
    ·rfl
   ·rfl
  ·rfl
 ·rfl
theorem w3k {S:Specs} {R:Runner} {lift:Bool} {o:Oper} {cx:Ctx} {st st':St} (h:z6u P S R lift o cx st=some st') (hob:st'.ob=true) {b:Nat} (hk:x7x o.op st.eval st.mem=some b) {a:Act} {w:World} (hr:Kn ρ st.eval a.eval o.op) (cU:Rel ρ st.mem st.next w):
  ∃u w',(execOp a.eval o).run P w=.ok (.value u) w'∧ ∀ab l,Yd st.mem b=some ab→ρ b=some l→Vt ρ w' ab l:=by
 obtain ⟨dst,op,type,pos,after,guard⟩:=o;simp only at hk hr;unfold x7x at hk;split at hk
 ·rename_i args argTypes;have cY:Ws (Yy ρ) (args.toList.map st.eval) (args.map a.eval).toList :=by rw [Array.toList_map];exact Ws.maps _ _ _ fun x hx=>hr x (by simp [Op.operands,Call.operands];exact Array.mem_toList_iff.1 hx)
  have h:(match z0n P cx st argTypes.toList (args.toList.map st.eval) with
   | some (v,st2)=>st2.put cx dst v
   | none=>none)=some st':=h
  split at h
  ·rename_i v st2 h2;have ho2:st2.ob=true:=by obtain ⟨_,_,p3,_⟩:=Wb h;rw [←p3];exact hob
   unfold z0n at h2;split at hk
   ·rename_i b' sz off len z b2 o2 n2 c2 r he;obtain rfl:=Option.some.inj hk;rw [he] at h2 cY;rcases Uf h2 with ⟨_,h2⟩ | ⟨_,h2⟩
    ·rw [v1e] at h2;cases h2
    ·obtain ⟨ρ',u,w',cX,_,hq⟩:=z4x (type:=type) cU h2 ho2 cY;exact ⟨u,w',by simp [execOp,resolve,invoke,builtin,cX],fun ab l k1 k2=>hq _ _ _ _ _ _ _ _ rfl k1 k2⟩
   ·rename_i b' off len z b2 o2 n2 c2 r he;split at hk
    ·rename_i blk hm;obtain ⟨hc,hk⟩:=Zo hk;obtain rfl:=Option.some.inj hk;simp only [Bool.and_eq_true] at hc;rw [he] at h2 cY;rcases Uf h2 with ⟨_,h2⟩ | ⟨_,h2⟩
     ·rw [v1e] at h2;cases h2
     ·obtain ⟨ρ',u,w',cX,_,_,hq⟩:=Qx (type:=type) cU cx.floor h2 cY;refine ⟨u,w',by simp [execOp,resolve,invoke,builtin,cX],fun ab l k1 k2=> ?_⟩;rw [hm] at k1;obtain rfl:=Option.some.inj k1;exact hq.1 _ _ _ _ _ _ _ _ _ _ _ rfl (Nat.le_of_ble_eq_true hc.2) hm (Nat.eq_of_beq_eq_true hc.1) k2
    ·cases hk
   ·cases hk
  ·cases h
 ·cases hk
structure Step1 (S:Specs) (P:Program) (ops:Array Oper) (cx:Ctx) (x:Bool×Oper) (st st':St):Prop where
 inv:Xm cx.floor st st'
 stay:(Xy x.2.op=.pure ∨Xy x.2.op=.read)→st'.mem=st.mem∧st'.next=st.next
 lift:st'.ob=true→x.1=true→Xy x.2.op=.call → ∀b,b<st.next→wrC S x.2.op st.eval≠some b→Yd st'.mem b=Yd st.mem b
 foot:st'.ob=true→Xy x.2.op=.chain → ∀b,b<st.next→x0m x.2.op st.eval≠some b→Yd st'.mem b=Yd st.mem b
 alloc:Xy x.2.op=.alloc →x.2.guard=none→ ∃t z,x.2.op=.alloc t∧Kh P t=some z∧st'.mem=(z8w st z t).mem ∧st'.next=(z8w st z t).next ∧ ∀d,x.2.dst=some d→st'.tmp d=.ptr st.next 0
 slot: ∀d,x.2.dst=some d→d<cx.n
 other:st'.ob=true→ ∀t,x.2.dst≠some t→st'.tmp t=st.tmp t
 does:st'.ob=true→ ∀(ρ:Rho) (a:Act) (w:World) (ev:Operand→AVal),a.tmps.size=cx.n→(∀y,y∈x.2.op.operands→ev y=st.eval y)→(∀d,Um ops x.2=some d→Yy ρ (st.tmp d) (a.tmps.getD d undef))→Kn ρ ev a.eval x.2.op→Rel ρ st.mem st.next w→
  ∀(K:Act→World→Prop) (Q:Exit→Act→World→Prop),(∀ρ' u w',(∀d,x.2.dst=some d→Yy ρ' (st'.tmp d) u)→Rel ρ' st'.mem st'.next w'→Ev ρ ρ' cx.floor st.mem st.next st'.mem st'.next w w'→(∀b ab l,x7x x.2.op st.eval st.mem=some b→Yd st.mem b=some ab→ρ b=some l→Vt ρ w' ab l)→K (a.put x.2.dst u) w')→
   if Region.wanted x.2 (yielded ops a.tmps) then x.2.wp P a w K Q else K (a.put x.2.dst undef) w
 calm:st'.ob=true→(Xy x.2.op=.pure ∨Xy x.2.op=.read)→ ∀(ρ:Rho) (a:Act) (w:World) (ev:Operand→AVal) (mem:Mem) (next:Nat),a.tmps.size=cx.n→(∀y,y∈x.2.op.operands→ev y=st.eval y)→(∀d,Um ops x.2=some d→Yy ρ (st.tmp d) (a.tmps.getD d undef))→Kn ρ ev a.eval x.2.op→Rel ρ mem next w→
  (∀t y b ab,x.2.op=.load t y→x5g x.2.op ev=some b→Yd st.mem b=some ab→Yd mem b=some ab)→ ∀(K:Act→World→Prop) (Q:Exit→Act→World→Prop),(∀u,(∀d,x.2.dst=some d→Yy ρ (st'.tmp d) u)→K (a.put x.2.dst u) w)→
   if Region.wanted x.2 (yielded ops a.tmps) then x.2.wp P a w K Q else K (a.put x.2.dst undef) w
theorem y5x {S:Specs} {R:Runner} (hN:z7u P) (hS:Zu P S) (hRI:x3p R) (hR:ROk P R) {ops:Array Oper} {x:Bool×Oper} {cx:Ctx} {st st':St} (hcx:cx.floor≤st.next) (h:y5f P S R ops cx x st=some st'):
  Step1 S P ops cx x st st':=by
 unfold y5f at h;split at h
 ·cases h
 ·rename_i st1 hw;obtain ⟨w1,w2,w3⟩:=Wy hw;obtain ⟨v,stm,hp,cZ,fI,hstay,hlift,hfoot,halloc,hdo⟩:=x5p hN hS hRI hR (by rw [w2];exact hcx) h;obtain ⟨p1,p2,p3,p4⟩:=Wb hp;have eP: ∀d,x.2.dst=some d→st'.tmp d=v:=fun d hd=>by
   rcases p4 with ⟨e,_⟩ | ⟨d',e,_,he⟩
   ·rw [hd] at e;cases e
   ·rw [hd] at e;obtain rfl:=Option.some.inj e;show T.get .undef st'.env d=v;rw [he,T.get_set,if_pos rfl]
  have hi1:Xm cx.floor st st1:=Xm.same w1 w2 fun ho=>(w3 ho).1;have hi2:Xm cx.floor stm st':=Xm.same p1 p2 fun ho=>by rw [←p3];exact ho
  refine ⟨(hi1.trans fI).trans hi2,fun hk=> ?_,fun ho hl hk b hb hn=> ?_,fun ho hk b hb hn=> ?_,fun hk hg=> ?_,fun d hd=> ?_,fun ho t ht=> ?_,fun ho ρ a w ev hsz hev hgr hr cU K Q hK=> ?_,fun ho hk ρ a w ev mem next hsz hev hgr hr cU hag K Q hK=> ?_⟩
  ·obtain ⟨s1,s2⟩:=hstay hk;exact ⟨p1.trans (s1.trans w1),p2.trans (s2.trans w2)⟩
  ·have ho1:st1.ob=true:=fI.ob (by rw [←p3];exact ho);have dG:st1.eval=st.eval:=by
    funext y
    cases y with
    | tmp t=>exact (w3 ho1).2 t
    | _=>rfl
   rw [p1,hlift hl hk b (by rw [w2];exact hb) (by rw [dG];exact hn),w1]
  ·have ho1:st1.ob=true:=fI.ob (by rw [←p3];exact ho);have dG:st1.eval=st.eval:=by
    funext y
    cases y with
    | tmp t=>exact (w3 ho1).2 t
    | _=>rfl
   rw [p1,hfoot hk b (by rw [w2];exact hb) (by rw [dG];exact hn),w1]
  ·obtain ⟨e1,t,z,e2,e3,e4⟩:=halloc hk;have hst:st1=st:=by obtain ⟨st0,hw0,_,_,_,hw1⟩:=Jf hw;rw [hw1 (.inl hk)];unfold z7r at hw0;rw [hg] at hw0;simp only [Option.some.injEq,Prod.mk.injEq] at hw0;exact hw0.2.symm
   subst hst;exact ⟨t,z,e2,e3,by rw [p1,e4],by rw [p2,e4],fun d hd=>by rw [eP d hd,e1]⟩
  ·rcases p4 with ⟨e,_⟩ | ⟨d',e,hlt,_⟩
   ·rw [hd] at e;cases e
   ·rw [hd] at e;obtain rfl:=Option.some.inj e;exact hlt
  ·have ho1:st1.ob=true:=fI.ob (by rw [←p3];exact ho);rw [←(w3 ho1).2 t];show T.get .undef st'.env t=T.get .undef st1.env t;rcases p4 with ⟨_,he⟩ | ⟨d,e,_,he⟩
   ·rw [he,cZ]
   ·rw [he,cZ,T.get_set,if_neg (by intro htd;subst htd;exact ht e)]
  ·have ho1:st1.ob=true:=fI.ob (by rw [←p3];exact ho);have dG:=(w3 ho1).2;have eQ: ∀y,st1.eval y=st.eval y:=fun y=>by cases y <;> first | rfl | exact dG _
   rw [Uh hw ho1 hsz hgr,if_pos rfl];refine ((hdo ho).does ρ a w ev (fun y hy=>by rw [eQ y];exact hev y hy) hr (by rw [w1,w2];exact cU)).wp2 fun ρ' u w' hpost cX=> ?_;have he:=hpost.ev;rw [w1,w2] at he;refine hK ρ' u w' (fun d hd=>by rw [eP d hd];exact hpost.val) (by rw [p1,p2];exact hpost.rel) (by rw [p1,p2];exact he) fun b ab l k1 k2 k3=> ?_;have hr':Kn ρ st1.eval a.eval x.2.op:=fun y hy=>by rw [eQ y,←hev y hy];exact hr y hy
   have e1:st1.eval=st.eval:=funext eQ;obtain ⟨u0,w0,r1,r2⟩:=w3k h ho (by rw [e1,w1];exact k1) hr' (by rw [w1,w2];exact cU);rcases cX with cX | cX
   ·rw [r1] at cX;have:w0=w':=(by injection cX);subst this;exact r2 ab l (by rw [w1];exact k2) k3
   ·exact absurd r1 (cX _ _)
  ·have ho1:st1.ob=true:=fI.ob (by rw [←p3];exact ho);have dG:=(w3 ho1).2;have eQ: ∀y,st1.eval y=st.eval y:=fun y=>by cases y <;> first | rfl | exact dG _
   rw [Uh hw ho1 hsz hgr,if_pos rfl];obtain ⟨u,cX,hu⟩:=(hdo ho).calm hk ρ a w ev mem next (fun y hy=>by rw [eQ y];exact hev y hy) hr cU (fun t y b ab q1 q2 q3=>hag t y b ab q1 q2 (by rw [←w1];exact q3))
   unfold Oper.wp;rw [cX];exact hK u fun d hd=>by rw [eP d hd];exact hu
 ·rename_i st1 hw;obtain ⟨w1,w2,w3⟩:=Wy hw;obtain ⟨p1,p2,p3,p4⟩:=Wb h;have eP: ∀d,x.2.dst=some d→st'.tmp d=.tup []:=fun d hd=>by
   rcases p4 with ⟨e,_⟩ | ⟨d',e,_,he⟩
   ·rw [hd] at e;cases e
   ·rw [hd] at e;obtain rfl:=Option.some.inj e;show T.get .undef st'.env d=.tup [];rw [he,T.get_set,if_pos rfl]
  refine ⟨Xm.same (p1.trans w1) (p2.trans w2) fun ho=>(w3 (by rw [←p3];exact ho)).1,fun _=>⟨p1.trans w1,p2.trans w2⟩,fun _ _ _ b _ _=>by rw [p1,w1],fun _ _ b _ _=>by rw [p1,w1],fun hk hg=> ?_,fun d hd=> ?_,fun ho t ht=> ?_,fun ho ρ a w ev hsz hev hgr hr cU K Q hK=> ?_,fun ho hk ρ a w ev mem next hsz hev hgr hr cU hag K Q hK=> ?_⟩
  ·obtain ⟨st0,hw0,_⟩:=Jf hw;unfold z7r at hw0;rw [hg] at hw0;simp at hw0
  ·rcases p4 with ⟨e,_⟩ | ⟨d',e,hlt,_⟩
   ·rw [hd] at e;cases e
   ·rw [hd] at e;obtain rfl:=Option.some.inj e;exact hlt
  ·rw [←(w3 (by rw [←p3];exact ho)).2 t];show T.get .undef st'.env t=T.get .undef st1.env t;rcases p4 with ⟨_,he⟩ | ⟨d,e,_,he⟩
   ·rw [he]
   ·rw [he,T.get_set,if_neg (by intro htd;subst htd;exact ht e)]
  ·have ho1:st1.ob=true:=by rw [←p3];exact ho
   rw [Uh hw ho1 hsz hgr,if_neg (by simp)];refine hK ρ undef w (fun d hd=>by rw [eP d hd];exact .tup [] #[] rfl fun i h1 _=>by simp at h1) ?_ ?_ fun b ab l _ k2 k3=>cU.blk b l ab k3 k2
   ·rw [p1,p2,w1,w2];exact cU
   ·rw [p1,p2,w1,w2];exact Ev.refl _ _ _ _ _ cU.dom
  ·have ho1:st1.ob=true:=by rw [←p3];exact ho
   rw [Uh hw ho1 hsz hgr,if_neg (by simp)];exact hK undef fun d hd=>by rw [eP d hd];exact .tup [] #[] rfl fun i h1 _=>by simp at h1
def Fin (D:List Deferred) (ρ:Rho) (cx:Ctx) (st st':St) (w:World):Exit→Act→World→Prop:=fun e a' w'=>
 e=.normal ∧a'.defers=D∧ ∃ρ',Wq ρ' st'.env cx.n a'.tmps∧Rel ρ' st'.mem st'.next w'∧Ev ρ ρ' cx.floor st.mem st.next st'.mem st'.next w w'
def v3c (ρ:Rho) (k:Nat) (o:Obj):Rho:=⟨ρ.f,fun j=>if j=k then some o else ρ.fz j,ρ.lp⟩
theorem y8r {k:Nat} {o:Obj} (h:ρ.fz k=none):ρ.le (v3c ρ k o):=
 ⟨fun _ _ e=>e,fun j o' e=>by
  show (if j=k then some o else ρ.fz j)=some o';by_cases hj:j=k
  ·subst hj;rw [h] at e;cases e
  ·rw [if_neg hj];exact e,fun _ _ e=>e⟩
theorem Rel.froze {mem:Mem} {next:Nat} {w:World} (h:Rel ρ mem next w) (vs:Array Value) (el:TypeId):
  Rel (v3c ρ w.heap.size (.cells vs el)) mem next {w with heap:=w.heap.push (.cells vs el)}:=by
 have hle:=y8r (o:=.cells vs el) (h.hold w.heap.size (Nat.le_refl _));have push: ∀k,k<w.heap.size→(w.heap.push (.cells vs el))[k]? =w.heap[k]? :=fun k hk=>by simp [Array.getElem?_push,Nat.ne_of_lt hk]
 refine ⟨h.dom,h.inj,fun b l ab e hm=> ?_,fun k o e=> ?_,fun b l e hs=> ?_,fun b l e=> ?_,h.bd,h.ldom⟩
 ·exact (h.blk b l ab e hm).world hle (push _ (h.real b l e))
 ·have e:(if k=w.heap.size then some (.cells vs el) else ρ.fz k)=some o:=e;show (w.heap.push (.cells vs el))[k]? =some o;by_cases hk:k=w.heap.size
  ·rw [if_pos hk] at e;rw [hk,←e];simp
  ·rw [if_neg hk] at e;have:=h.old k o e;rw [push k (Array.getElem?_eq_some_iff.1 this).1];exact this
 ·have:=h.real b l e;show (if l.blk=w.heap.size then _ else ρ.fz l.blk)=none;rw [if_neg (by omega)];exact h.sep b l e hs
 ·have:=h.real b l e;show l.blk<(w.heap.push (.cells vs el)).size;rw [Array.size_push];omega
theorem Ev.froze {mem:Mem} {next:Nat} {w:World} (h:Rel ρ mem next w) (floor:Nat) (m:Mem) (vs:Array Value) (el:TypeId):
  Ev ρ (v3c ρ w.heap.size (.cells vs el)) floor m next m next w {w with heap:=w.heap.push (.cells vs el)}:=by
 have hle:=y8r (o:=.cells vs el) (h.hold w.heap.size (Nat.le_refl _));refine ⟨hle,fun _ _=>rfl,Nat.le_refl _,fun _ _ _ _ _ q=>q,fun k o q _=> ?_,fun b l hb hl=> ?_,?_,rfl,rfl,rfl,fun k hk=> ?_⟩
 ·have hk:k<w.heap.size:=(Array.getElem?_eq_some_iff.1 q).1;show (w.heap.push (.cells vs el))[k]? =some o;simp only [Array.getElem?_push,Nat.ne_of_lt hk,if_false];exact q
 ·have:=h.dom b l hl;omega
 ·show w.heap.size≤(w.heap.push (.cells vs el)).size;rw [Array.size_push];omega
 ·show (if k=w.heap.size then _ else ρ.fz k)=ρ.fz k;rw [if_neg (by omega)]
theorem x8e {w:World} {t:TypeId} {len:Nat} {ps:List (Nat×AVal)} {qs:List (Nat×Value)} {v:AVal} (hb:u7i P t len ps=some v) (hp:z0o ρ ps qs) (hf:ρ.fz w.heap.size=none):
  ∃u vs el,(Instr.buildSlice t len qs.toArray).run P w=.ok u {w with heap:=w.heap.push (.cells vs el)}∧Yy (v3c ρ w.heap.size (.cells vs el)) v u:=by
 unfold u7i at hb;split at hb
 ·rename_i e hu;split at hb
  ·rename_i i zero hi hz;obtain ⟨hc,hb⟩:=Zo hb;simp only [Bool.and_eq_true] at hc;obtain ⟨⟨hl1,hs1⟩,hle,hzl⟩:=hc;have hl1:=Nat.le_of_ble_eq_true hl1;have hs1:=Nat.le_of_ble_eq_true hs1;have hle:=Nat.le_of_ble_eq_true hle;have hzl:=Nat.eq_of_beq_eq_true hzl;split at hb
   ·rename_i cells dA;obtain ⟨hc,hb⟩:=Zo hb;simp only [Bool.and_eq_true] at hc;obtain ⟨hn,hpf⟩:=hc;have hn:=Nat.eq_of_beq_eq_true hn;obtain rfl:=Option.some.inj hb;obtain ⟨_,z,_,_,hzr,hzv⟩:=Wv (ρ:=ρ) hz;have eA:=z8c hzr len (len*i.size) (by rw [hzl]);obtain ⟨arr,h1,h2⟩:=Kw dA eA hp;have hsz:arr.size=len*i.size:=(by rw [←h2.1,hn]);have hgt': ¬2 ^ 24<len*i.size:=(by omega);have hpos:0<len*i.size:=Nat.mul_pos (by omega) (by omega);have h0: ¬len*i.size=0:=(by omega);refine ⟨.slice (some ⟨w.heap.size,0,none⟩) len len,arr,e,?_,?_⟩
    ·have hsz0: ¬i.size=0:=(by omega);simp [Instr.buildSlice,run_underlying hu,Zn hi,h0,hsz0,hzv,h1,newRow,hgt']
    ·have hin: ∀a b,a<len→b<i.size→a*i.size+b<cells.length:=fun a b ha hb=>by have:(a+1)*i.size≤len*i.size:=Nat.mul_le_mul_right _ ha;rw [Nat.add_mul,Nat.one_mul] at this;omega
     have dD: ∀a,a<len→((cells.drop (a*i.size)).take i.size).length =i.size:=fun a ha=>by have:(a+1)*i.size≤len*i.size:=Nat.mul_le_mul_right _ ha;rw [Nat.add_mul,Nat.one_mul] at this;rw [List.length_take,List.length_drop];omega
     refine .dat len _ w.heap.size 0 i.size len (fun a b=>arr.getD (a*i.size+b) undef) (Nat.le_refl _) (fun a ha=>dD a ha) (fun a b ha hb=> ?_) (fun a b ha hb=> ?_)
     ·have hb':b<i.size:=by rw [dD a ha] at hb;exact hb
      have h3:=hin a b ha hb';have e1:((cells.drop (a*i.size)).take i.size)[b]=cells[a*i.size+b]:=by rw [List.getElem_take,List.getElem_drop]
      rw [e1];have h4:a*i.size+b<arr.size:=by rw [←h2.1];exact h3
      have e2:arr.getD (a*i.size+b) undef=arr[a*i.size+b]:=(by simp [h4]);rw [e2];have h5:=Jd 6 _ _ (List.all_eq_true.1 hpf _ (List.getElem_mem h3)) (h2.2 _ h3 h4);exact h5.mono (y8r (o:=.cells arr e) hf).bare
     ·have h3:=hin a b ha hb;have h4:a*i.size+b<arr.size:=by rw [←h2.1];exact h3
      refine ⟨arr,e,(0,0),?_,?_⟩
      ·show (if w.heap.size=w.heap.size then some (Obj.cells arr e) else _)=_;rw [if_pos rfl]
      ·simp [h4]
   ·cases hb
  ·cases hb
 ·cases hb
structure v6v (S:Specs) (z:Nat) (P:Program) (ops:Array Oper) (cx:Ctx) (x:Bool×Oper) (st st':St):Prop where
 inv:Xm cx.floor st st'
 stay:(Xz z x.2.op=.pure ∨Xz z x.2.op=.read ∨Xz z x.2.op=.lit)→st'.mem=st.mem∧st'.next=st.next
 lift:st'.ob=true→x.1=true→Xz z x.2.op=.call → ∀b,b<st.next→wrC S x.2.op st.eval≠some b→Yd st'.mem b=Yd st.mem b
 foot:st'.ob=true→Xz z x.2.op=.chain → ∀b,b<st.next→x0m x.2.op st.eval≠some b→Yd st'.mem b=Yd st.mem b
 fresh:st'.ob=true→(Xz z x.2.op=.alloc ∨Xz z x.2.op=.birth)→x.2.guard=none→ ∃cells ty,st'.mem=Xi st.mem st.next (some ⟨cells,ty,none⟩)∧st'.next=st.next+1∧
  ∀(ρ:Rho) (a:Act) (w:World) (ev:Operand→AVal),(∀y,y∈x.2.op.operands→ev y=st.eval y)→Kn ρ ev a.eval x.2.op→
   ∃u vs el,Vk ρ cells vs∧(execOp a.eval x.2).run P w=.ok (.value u) {w with heap:=w.heap.push (.cells vs el)}∧ ∀ρ':Rho,ρ' st.next=some ⟨w.heap.size,0,cells.length,vs.size⟩→ ∀d,x.2.dst=some d→Yy ρ' (st'.tmp d) u
 slot: ∀d,x.2.dst=some d→d<cx.n
 other:st'.ob=true→ ∀t,x.2.dst≠some t→st'.tmp t=st.tmp t
 does:st'.ob=true→(Xz z x.2.op=.chain ∨Xz z x.2.op=.call)→ ∀(ρ:Rho) (a:Act) (w:World) (ev:Operand→AVal),a.tmps.size=cx.n→(∀y,y∈x.2.op.operands→ev y=st.eval y)→(∀d,Um ops x.2=some d→Yy ρ (st.tmp d) (a.tmps.getD d undef))→Kn ρ ev a.eval x.2.op→Rel ρ st.mem st.next w→
  ∀(K:Act→World→Prop) (Q:Exit→Act→World→Prop),(∀ρ' u w',(∀d,x.2.dst=some d→Yy ρ' (st'.tmp d) u)→Rel ρ' st'.mem st'.next w'→Ev ρ ρ' cx.floor st.mem st.next st'.mem st'.next w w'→(∀b ab l,x7x x.2.op st.eval st.mem=some b→Yd st.mem b=some ab→ρ b=some l→Vt ρ w' ab l)→K (a.put x.2.dst u) w')→
   if Region.wanted x.2 (yielded ops a.tmps) then x.2.wp P a w K Q else K (a.put x.2.dst undef) w
 calm:st'.ob=true→(Xz z x.2.op=.pure ∨Xz z x.2.op=.read)→ ∀(ρ:Rho) (a:Act) (w:World) (ev:Operand→AVal) (mem:Mem) (next:Nat),a.tmps.size=cx.n→(∀y,y∈x.2.op.operands→ev y=st.eval y)→(∀d,Um ops x.2=some d→Yy ρ (st.tmp d) (a.tmps.getD d undef))→Kn ρ ev a.eval x.2.op→Rel ρ mem next w→
  (∀t y b ab,x.2.op=.load t y→x5g x.2.op ev=some b→Yd st.mem b=some ab→Yd mem b=some ab)→ ∀(K:Act→World→Prop) (Q:Exit→Act→World→Prop),(∀u,(∀d,x.2.dst=some d→Yy ρ (st'.tmp d) u)→K (a.put x.2.dst u) w)→
   if Region.wanted x.2 (yielded ops a.tmps) then x.2.wp P a w K Q else K (a.put x.2.dst undef) w
 lit:st'.ob=true→Xz z x.2.op=.lit → ∀(ρ:Rho) (a:Act) (w:World) (ev:Operand→AVal) (mem:Mem) (next:Nat),a.tmps.size=cx.n→(∀y,y∈x.2.op.operands→ev y=st.eval y)→(∀d,Um ops x.2=some d→Yy ρ (st.tmp d) (a.tmps.getD d undef))→Kn ρ ev a.eval x.2.op→Rel ρ mem next w→
  ∀(K:Act→World→Prop) (Q:Exit→Act→World→Prop),(∀ρ' u w',(∀d,x.2.dst=some d→Yy ρ' (st'.tmp d) u)→Rel ρ' mem next w'→(∀b,ρ' b=ρ b)→(∀floor m,Ev ρ ρ' floor m next m next w w')→K (a.put x.2.dst u) w')→
   if Region.wanted x.2 (yielded ops a.tmps) then x.2.wp P a w K Q else K (a.put x.2.dst undef) w
theorem y3k {z:Nat} {op:Op} (h:y5k z op=false) (h2:isBirth z op=false):Xz z op=Xy op:=by unfold Xz;rw [h,h2];rfl
theorem v1f {o:Oper} {t:TypeId} {z:List AVal} (ho:o.op=.alloc t) (hz:Kh P t=some z) (a:Act) (w:World):
  ∃vs:Array Value,Vk ρ z vs∧(execOp a.eval o).run P w=.ok (.value (.pointer (some ⟨w.heap.size,0,none⟩))) {w with heap:=w.heap.push (.cells vs t)}:=by
 obtain ⟨dst,op,type,pos,after,guard⟩:=o;simp only at ho;subst ho;obtain ⟨_,zv,_,_,hzr,hzv⟩:=Wv (ρ:=ρ) hz;exact ⟨zv.cells,hzr,by simp [execOp,Instr.alloc,hzv,newVar,newRow]⟩
theorem x0h {w:World} {t:TypeId} {len:Nat} {ps:List (Nat×AVal)} {qs:List (Nat×Value)} {cells:List AVal} {e:TypeId} {sz:Nat} (hb:x8j P t len ps=some (cells,e,sz)) (hp:z0o ρ ps qs):
  ∃vs el,Vk ρ cells vs∧(Instr.buildSlice t len qs.toArray).run P w=.ok (.slice (some ⟨w.heap.size,0,none⟩) len len) {w with heap:=w.heap.push (.cells vs el)}∧cells.length=len*sz∧vs.size=len*sz:=by
 unfold x8j at hb;split at hb
 ·rename_i e hu;split at hb
  ·rename_i i zero hi hz;obtain ⟨hc,hb⟩:=Zo hb;simp only [Bool.and_eq_true] at hc;obtain ⟨⟨hl1,hs1⟩,hle,hzl⟩:=hc;have hl1:=Nat.le_of_ble_eq_true hl1;have hs1:=Nat.le_of_ble_eq_true hs1;have hle:=Nat.le_of_ble_eq_true hle;have hzl:=Nat.eq_of_beq_eq_true hzl;split at hb
   ·rename_i cells dA;obtain ⟨hn,hb⟩:=Zo hb;have hn:=Nat.eq_of_beq_eq_true hn;simp only [Option.some.injEq,Prod.mk.injEq] at hb;obtain ⟨rfl,rfl,rfl⟩:=hb;obtain ⟨_,z,_,_,hzr,hzv⟩:=Wv (ρ:=ρ) hz;have eA:=z8c hzr len (len*i.size) (by rw [hzl]);obtain ⟨arr,h1,h2⟩:=Kw dA eA hp;have hsz:arr.size=len*i.size:=(by rw [←h2.1,hn]);have hgt': ¬2 ^ 24<len*i.size:=(by omega);have hpos:0<len*i.size:=Nat.mul_pos (by omega) (by omega);have h0: ¬len*i.size=0:=(by omega);have hsz0: ¬i.size=0:=(by omega);exact ⟨arr,e,h2,by simp [Instr.buildSlice,run_underlying hu,Zn hi,h0,hsz0,hzv,h1,newRow,hgt'],hn,hsz⟩
   ·cases hb
  ·cases hb
 ·cases hb
theorem y7g (op:Op):Xy op≠ .lit :=by
 cases op with
 | call c=>
  obtain ⟨callee,args,argTypes⟩:=c;cases callee with
  | builtin b=>cases b <;> exact fun h=>by cases h
  | value f=>exact fun h=>by cases h
  | invoke r m=>exact fun h=>by cases h
 | _=>exact fun h=>by cases h
theorem z9q (op:Op):Xy op≠ .birth :=by
 cases op with
 | call c=>
  obtain ⟨callee,args,argTypes⟩:=c;cases callee with
  | builtin b=>cases b <;> exact fun h=>by cases h
  | value f=>exact fun h=>by cases h
  | invoke r m=>exact fun h=>by cases h
 | _=>exact fun h=>by cases h
theorem w1l {S:Specs} {R:Runner} (hN:z7u P) (hS:Zu P S) (hRI:x3p R) (hR:ROk P R) {z:Nat} {ops:Array Oper} {x:Bool×Oper} {cx:Ctx} {st st':St} (hcx:cx.floor≤st.next) (h:x3z z P S R ops cx x st=some st'):
  v6v S z P ops cx x st st':=by
 unfold x3z at h;cases hz:y5k z x.2.op with
 | false=>
  rw [hz,cond_false] at h;cases hz2:isBirth z x.2.op with
  | false=>
   rw [hz2,cond_false] at h;have s:=y5x hN hS hRI hR hcx h;have hk:=y3k hz hz2;refine ⟨s.inv,fun k=> ?_,?_,?_,?_,s.slot,s.other,fun ho _=>s.does ho,fun ho k=>s.calm ho (by rw [←hk];exact k),fun _ k=> ?_⟩
   ·rw [hk] at k;rcases k with k | k | k
    ·exact s.stay (.inl k)
    ·exact s.stay (.inr k)
    ·exact absurd k (y7g _)
   ·rw [hk];exact s.lift
   ·rw [hk];exact s.foot
   ·intro _ k hg;have k:Xy x.2.op=.alloc :=by
     rw [hk] at k;rcases k with k | k
     ·exact k
     ·exact absurd k (z9q _)
    obtain ⟨t,z0,e1,e2,e3,e4,e5⟩:=s.alloc k hg;refine ⟨z0,t,e3,e4,fun ρ a w ev _ _=> ?_⟩;obtain ⟨vs,hvs,cX⟩:=v1f (P:=P) (ρ:=ρ) e1 e2 a w;exact ⟨_,vs,t,hvs,cX,fun ρ' hρ d hd=>by rw [e5 d hd];exact .ptr _ 0 _ hρ⟩
   ·rw [hk] at k;exact absurd k (y7g _)
  | true=>
   rw [hz2,cond_true] at h;have hk:Xz z x.2.op=.birth :=by unfold Xz;rw [hz,hz2];rfl
   obtain ⟨lf,o⟩:=x;obtain ⟨dst,op,type,pos,after,guard⟩:=o;simp only at h hz hz2 hk ⊢;cases op with
   | buildSlice t len parts=>
    split at h
    ·cases h
    ·rename_i st1 hw;obtain ⟨w1,w2,w3⟩:=Wy hw;unfold y4i at h;simp only at h;split at h
     ·rename_i cells e sz hv;obtain ⟨p1,p2,p3,p4⟩:=Wb h;have eP: ∀d,dst=some d→st'.tmp d=.sl st1.next 0 len (bif cx.sym then .un sz else .ex len):=fun d hd=>by
       rcases p4 with ⟨e,_⟩ | ⟨d',e,_,he⟩
       ·rw [hd] at e;cases e
       ·rw [hd] at e;obtain rfl:=Option.some.inj e;show T.get .undef st'.env d=_;rw [he,T.get_set,if_pos rfl]
      have hi1:Xm cx.floor st st1:=Xm.same w1 w2 fun ho=>(w3 ho).1;have hi2:Xm cx.floor (z8w st1 cells e) st':=Xm.same p1 p2 fun ho=>by rw [←p3];exact ho
      obtain ⟨env1,mem1,next1,orc1,ob1⟩:=st1;simp only [z8w] at p1 p2 p3 p4;simp only at w1 w2 eP;refine ⟨(hi1.trans (Xm.new _ _ _)).trans hi2,(fun k=>by rw [hk] at k;rcases k with k | k | k <;> cases k),(fun _ _ k=>by rw [hk] at k;cases k),(fun _ k=>by rw [hk] at k;cases k),fun ho _ _=> ?_,fun d hd=> ?_,fun ho t ht=> ?_,(fun _ k=>by rcases k with k | k <;> rw [hk] at k <;> cases k),(fun _ k=>by rcases k with k | k <;> rw [hk] at k <;> cases k),(fun _ k=>by rw [hk] at k;cases k)⟩
      ·have ho1:ob1=true:=by rw [←p3];exact ho
       have dG:=(w3 ho1).2;refine ⟨cells,e,by rw [p1,w1,w2],by rw [p2,w2],fun ρ a w ev hev hr=> ?_⟩;have eQ: ∀y,St.eval ⟨env1,mem1,next1,orc1,ob1⟩ y=st.eval y:=fun y=>by cases y <;> first | rfl | exact dG _
       have hpr:z0o ρ (parts.toList.map fun p=>(p.1,St.eval ⟨env1,mem1,next1,orc1,ob1⟩ p.2)) (parts.toList.map fun p=>(p.1,a.eval p.2)):=z1u parts.toList fun p hp=>by
        have hm:p.2∈(Op.buildSlice t len parts).operands :=by simp only [Op.operands,List.mem_toArray,List.mem_map];exact ⟨p,hp,rfl⟩
        rw [eQ p.2,←hev p.2 hm];exact hr p.2 hm
       obtain ⟨vs,el,hvs,cX,hn1,hn2⟩:=x0h (w:=w) hv hpr;have hpa:(parts.map fun (i,x)=>(i,a.eval x))=(parts.toList.map fun p=>(p.1,a.eval p.2)).toArray :=by apply Array.ext';simp
       refine ⟨.slice (some ⟨w.heap.size,0,none⟩) len len,vs,el,hvs,by simp [execOp,hpa,cX],fun ρ' hρ d hd=> ?_⟩;rw [eP d hd,w2];refine .sl _ 0 len _ ⟨w.heap.size,0,cells.length,vs.size⟩ len hρ ?_ (Nat.le_refl _);cases cx.sym with
       | true=>exact ⟨by simp only [Nat.zero_add];rw [hn1];exact Nat.le_refl _,by simp only [Nat.zero_add];rw [hn2];exact Nat.le_refl _⟩
       | false=>exact rfl
      ·rcases p4 with ⟨e,_⟩ | ⟨d',e,hlt,_⟩
       ·simp only at hd;rw [hd] at e;cases e
       ·simp only at hd;rw [hd] at e;obtain rfl:=Option.some.inj e;exact hlt
      ·have ho1:ob1=true:=by rw [←p3];exact ho
       rw [←(w3 ho1).2 t];show T.get .undef st'.env t=T.get .undef env1 t;rcases p4 with ⟨_,he⟩ | ⟨d,e,_,he⟩
       ·rw [he]
       ·rw [he,T.get_set,if_neg (by intro htd;subst htd;exact ht e)]
     ·cases h
    ·rename_i st1 hw;obtain ⟨w1,w2,w3⟩:=Wy hw;obtain ⟨p1,p2,p3,p4⟩:=Wb h;have hi1:Xm cx.floor st st1:=Xm.same w1 w2 fun ho=>(w3 ho).1;have hi2:Xm cx.floor st1 st':=Xm.same p1 p2 fun ho=>by rw [←p3];exact ho
     refine ⟨hi1.trans hi2,(fun k=>by rw [hk] at k;rcases k with k | k | k <;> cases k),(fun _ _ k=>by rw [hk] at k;cases k),(fun _ k=>by rw [hk] at k;cases k),fun _ _ hg=> ?_,fun d hd=> ?_,fun ho t ht=> ?_,(fun _ k=>by rcases k with k | k <;> rw [hk] at k <;> cases k),(fun _ k=>by rcases k with k | k <;> rw [hk] at k <;> cases k),(fun _ k=>by rw [hk] at k;cases k)⟩
     ·obtain ⟨st0,hw0,_⟩:=Jf hw;unfold z7r at hw0;simp only at hg;rw [hg] at hw0;simp at hw0
     ·rcases p4 with ⟨e,_⟩ | ⟨d',e,hlt,_⟩
      ·simp only at hd;rw [hd] at e;cases e
      ·simp only at hd;rw [hd] at e;obtain rfl:=Option.some.inj e;exact hlt
     ·have ho1:st1.ob=true:=by rw [←p3];exact ho
      rw [←(w3 ho1).2 t];show T.get .undef st'.env t=T.get .undef st1.env t;rcases p4 with ⟨_,he⟩ | ⟨d,e,_,he⟩
      ·rw [he]
      ·rw [he,T.get_set,if_neg (by intro htd;subst htd;exact ht e)]
   | _=>cases hz2
 | true=>
  rw [hz,cond_true] at h;have hk:Xz z x.2.op=.lit :=by unfold Xz;rw [hz];rfl
  obtain ⟨lf,o⟩:=x;obtain ⟨dst,op,type,pos,after,guard⟩:=o;simp only at h hz hk ⊢;cases op with
  | buildSlice t len parts=>
   split at h
   ·cases h
   ·rename_i st1 hw;obtain ⟨w1,w2,w3⟩:=Wy hw;unfold x6e at h;simp only at h;split at h
    ·rename_i v hv;obtain ⟨p1,p2,p3,p4⟩:=Wb h;have eP: ∀d,dst=some d→st'.tmp d=v:=fun d hd=>by
      rcases p4 with ⟨e,_⟩ | ⟨d',e,_,he⟩
      ·rw [hd] at e;cases e
      ·rw [hd] at e;obtain rfl:=Option.some.inj e;show T.get .undef st'.env d=v;rw [he,T.get_set,if_pos rfl]
     have hi1:Xm cx.floor st st1:=Xm.same w1 w2 fun ho=>(w3 ho).1;have hi2:Xm cx.floor st1 st':=Xm.same p1 p2 fun ho=>by rw [←p3];exact ho
     refine ⟨hi1.trans hi2,fun _=>⟨p1.trans w1,p2.trans w2⟩,(fun _ _ k=>by rw [hk] at k;cases k),(fun _ k=>by rw [hk] at k;cases k),(fun _ k=>by rw [hk] at k;rcases k with k | k <;> cases k),fun d hd=> ?_,fun ho t ht=> ?_,(fun _ k=>by rcases k with k | k <;> rw [hk] at k <;> cases k),(fun _ k=>by rcases k with k | k <;> rw [hk] at k <;> cases k),fun ho _ ρ a w ev mem next hsz hev hgr hr cU K Q hK=> ?_⟩
     ·rcases p4 with ⟨e,_⟩ | ⟨d',e,hlt,_⟩
      ·simp only at hd;rw [hd] at e;cases e
      ·simp only at hd;rw [hd] at e;obtain rfl:=Option.some.inj e;exact hlt
     ·have ho1:st1.ob=true:=by rw [←p3];exact ho
      rw [←(w3 ho1).2 t];show T.get .undef st'.env t=T.get .undef st1.env t;rcases p4 with ⟨_,he⟩ | ⟨d,e,_,he⟩
      ·rw [he]
      ·rw [he,T.get_set,if_neg (by intro htd;subst htd;exact ht e)]
     ·have ho1:st1.ob=true:=by rw [←p3];exact ho
      have dG:=(w3 ho1).2;have eQ: ∀y,st1.eval y=st.eval y:=fun y=>by cases y <;> first | rfl | exact dG _
      rw [Uh hw ho1 hsz hgr,if_pos rfl];have hpr:z0o ρ (parts.toList.map fun p=>(p.1,st1.eval p.2)) (parts.toList.map fun p=>(p.1,a.eval p.2)):=z1u parts.toList fun p hp=>by
       have hm:p.2∈(Op.buildSlice t len parts).operands :=by simp only [Op.operands,List.mem_toArray,List.mem_map];exact ⟨p,hp,rfl⟩
       rw [eQ p.2,←hev p.2 hm];exact hr p.2 hm
      obtain ⟨u,vs,el,cX,hu⟩:=x8e hv hpr (cU.hold w.heap.size (Nat.le_refl _));have:(parts.map fun (i,x)=>(i,a.eval x))=(parts.toList.map fun p=>(p.1,a.eval p.2)).toArray :=by apply Array.ext';simp
      unfold Oper.wp;have hrun':(execOp a.eval ⟨dst,.buildSlice t len parts,type,pos,after,guard⟩).run P w=.ok (.value u) {w with heap:=w.heap.push (.cells vs el)}:=by simp [execOp,this,cX]
      rw [hrun'];exact hK _ u _ (fun d hd=>by rw [eP d hd];exact hu) (cU.froze vs el) (fun _=>rfl) fun floor m=>Ev.froze cU floor m vs el
    ·cases h
   ·rename_i st1 hw;obtain ⟨w1,w2,w3⟩:=Wy hw;obtain ⟨p1,p2,p3,p4⟩:=Wb h;have eP: ∀d,dst=some d→st'.tmp d=.tup []:=fun d hd=>by
     rcases p4 with ⟨e,_⟩ | ⟨d',e,_,he⟩
     ·rw [hd] at e;cases e
     ·rw [hd] at e;obtain rfl:=Option.some.inj e;show T.get .undef st'.env d=_;rw [he,T.get_set,if_pos rfl]
    have hi1:Xm cx.floor st st1:=Xm.same w1 w2 fun ho=>(w3 ho).1;have hi2:Xm cx.floor st1 st':=Xm.same p1 p2 fun ho=>by rw [←p3];exact ho
    refine ⟨hi1.trans hi2,fun _=>⟨p1.trans w1,p2.trans w2⟩,(fun _ _ k=>by rw [hk] at k;cases k),(fun _ k=>by rw [hk] at k;cases k),(fun _ k=>by rw [hk] at k;rcases k with k | k <;> cases k),fun d hd=> ?_,fun ho t ht=> ?_,(fun _ k=>by rcases k with k | k <;> rw [hk] at k <;> cases k),(fun _ k=>by rcases k with k | k <;> rw [hk] at k <;> cases k),fun ho _ ρ a w ev mem next hsz hev hgr hr cU K Q hK=> ?_⟩
    ·rcases p4 with ⟨e,_⟩ | ⟨d',e,hlt,_⟩
     ·simp only at hd;rw [hd] at e;cases e
     ·simp only at hd;rw [hd] at e;obtain rfl:=Option.some.inj e;exact hlt
    ·have ho1:st1.ob=true:=by rw [←p3];exact ho
     rw [←(w3 ho1).2 t];show T.get .undef st'.env t=T.get .undef st1.env t;rcases p4 with ⟨_,he⟩ | ⟨d,e,_,he⟩
     ·rw [he]
     ·rw [he,T.get_set,if_neg (by intro htd;subst htd;exact ht e)]
    ·have ho1:st1.ob=true:=by rw [←p3];exact ho
     rw [Uh hw ho1 hsz hgr,if_neg Bool.false_ne_true];exact hK ρ undef w (fun d hd=>by rw [eP d hd];exact .tup [] #[] rfl fun i h1 _=>by simp at h1) cU (fun _=>rfl) fun floor m=>Ev.refl _ _ _ _ _ cU.dom
  | _=>cases hz
end
end Go.Am
namespace Go.Am
section
variable {ops:Array Oper}
def z7v (ops:Array Oper) (S:Nat→Bool):Prop:= ∀j o,ops[j]? =some o→S j=true→ ∀e∈o.after.toList,Region.binds .any e=true→S e.on=true
def x0l (S:Nat→Bool) (o:Oper):Prop:= ∀e∈o.after.toList,Region.binds .any e=true→S e.on=true
def z9z (ops:Array Oper) (i:Nat) (o:Oper):Prop:= ∀S,z7v ops S→x0l S o→S i=true
theorem x2p (acc:List Nat) (i:Nat): ∀(es:List Edge) (s:Nat),(es.foldl (fun s e=>bif Region.binds .any e then s||| (2 ^ e.on)||| acc.getD e.on 0 else s) s).testBit i=true→
  s.testBit i=true∨ ∃e∈es,Region.binds .any e=true∧(e.on=i∨(acc.getD e.on 0).testBit i=true)
 | [],s,h=>.inl h
 | e::es,s,h=>by
  simp only [List.foldl_cons] at h;rcases x2p acc i es _ h with h | ⟨e',he',h1,h2⟩
  ·cases hb:Region.binds .any e with
   | false=>rw [hb] at h;exact .inl h
   | true=>
    rw [hb,cond_true,Nat.testBit_or,Nat.testBit_or,Bool.or_eq_true,Bool.or_eq_true] at h;rcases h with (h | h) | h
    ·exact .inl h
    ·rw [Nat.testBit_two_pow] at h;exact .inr ⟨e,by simp,hb,.inl (by simpa using h)⟩
    ·exact .inr ⟨e,by simp,hb,.inr h⟩
  ·exact .inr ⟨e',by simp [he'],h1,h2⟩
theorem x2w (eK: ∀(j:Nat) o,ops[j]? =some o→ ∀e∈o.after.toList,Region.binds .any e=true→e.on<j): ∀(l:List Oper) (acc:List Nat),acc.length+l.length=ops.size→(∀k,l[k]? =ops[acc.length+k]?)→
  (∀k o,k<acc.length→ops[k]? =some o→ ∀i,(acc.getD k 0).testBit i=true→i<k∧z9z ops i o)→
  ∀k o,ops[k]? =some o→ ∀i,((w4j l acc).getD k 0).testBit i=true→i<k∧z9z ops i o
 | [],acc,cW,_,fG,k,o,ho,i,h=>by have hk:k<ops.size:=(Array.getElem?_eq_some_iff.1 ho).1;simp at cW;exact fG k o (by omega) ho i h
 | x::l,acc,cW,hl,fG,k,o,ho,i,h=>by
  unfold w4j at h;refine x2w eK l (acc++[x.after.toList.foldl (fun s e=>bif Region.binds .any e then s||| (2 ^ e.on)||| acc.getD e.on 0 else s) 0]) (by simp at cW ⊢;omega) (fun k=>by
   have:=hl (k+1)
   simpa [Nat.add_assoc,Nat.add_comm 1 k] using this) (fun k' o' hk' ho' i' hi'=> ?_) k o ho i h
  by_cases hlt:k'<acc.length
  ·refine fG k' o' hlt ho' i' ?_;rw [List.getD,List.getElem?_append_left hlt] at hi';exact hi'
  ·have hk2:k'=acc.length:=by simp at hk';omega
   subst hk2;have hx:ops[acc.length]? =some x:=by simpa using (hl 0).symm
   rw [hx] at ho';obtain rfl:=Option.some.inj ho';have hg:(acc++[x.after.toList.foldl (fun s e=>bif Region.binds .any e then s||| (2 ^ e.on)||| acc.getD e.on 0 else s) 0]).getD acc.length 0=x.after.toList.foldl (fun s e=>bif Region.binds .any e then s||| (2 ^ e.on)||| acc.getD e.on 0 else s) 0:=by simp [List.getD]
   rw [hg] at hi';rcases x2p acc i' _ _ hi' with h0 | ⟨e,he,hb,h1⟩
   ·simp at h0
   ·have hlt':=eK _ _ hx e he hb;rcases h1 with rfl | h1
    ·exact ⟨hlt',fun S _ hr=>hr e he hb⟩
    ·have ho2:ops[e.on]? =some (ops[e.on]'(by simp at cW;omega)):=(by simp);obtain ⟨q1,q2⟩:=fG e.on _ hlt' ho2 i' h1;exact ⟨by omega,fun S hc hr=>q2 S hc fun e' he' hb'=>hc e.on _ ho2 (hr e he hb) e' he' hb'⟩
theorem y9n {z:Nat} {op:Op} {k:Kind} (hk:k≠ .lit) (hb:k≠ .birth):Xz z op=k↔Xy op=k∧y5k z op=false∧isBirth z op=false:=by
 cases hz:y5k z op with
 | false=>
  cases hz2:isBirth z op with
  | false=>rw [y3k hz hz2];simp
  | true=>
   have:Xz z op=.birth :=by unfold Xz;rw [hz,hz2];rfl
   rw [this];exact ⟨fun h=>absurd h.symm hb,fun h=>by cases h.2.2⟩
 | true=>
  have:Xz z op=.lit :=by unfold Xz;rw [hz];rfl
  rw [this];exact ⟨fun h=>absurd h.symm hk,fun h=>by cases h.2.1⟩
theorem x6o {z:Nat} {op:Op} (h:y5k z op=true):Xy op=.chain :=by
 cases op <;> first | rfl | (cases h;done)
theorem y9o {z:Nat} {op:Op} (h:isBirth z op=true):Xy op=.chain :=by
 cases op <;> first | rfl | (cases h;done)
theorem x2e {z:Nat} {op:Op} {k:Kind} (hk:k≠ .lit) (hb:k≠ .birth) (hc:k≠ .chain):Xz z op=k↔Xy op=k:=by
 rw [y9n hk hb];constructor
 ·exact fun h=>h.1
 ·intro h;refine ⟨h,?_,?_⟩
  ·cases hz:y5k z op with
   | false=>rfl
   | true=>exact absurd (h.symm.trans (x6o hz)) hc
  ·cases hz:isBirth z op with
   | false=>rfl
   | true=>exact absurd (h.symm.trans (y9o hz)) hc
theorem z2b {z:Nat} {op:Op}:Xz z op=.alloc ↔Xy op=.alloc :=x2e (fun h=>by cases h) (fun h=>by cases h) fun h=>by cases h
theorem y7f {z:Nat} {op:Op}:Xz z op=.read ↔Xy op=.read :=x2e (fun h=>by cases h) (fun h=>by cases h) fun h=>by cases h
theorem y3l {z:Nat} {op:Op} (h:Xz z op=.birth):isBirth z op=true:=by
 cases hz:isBirth z op with
 | true=>rfl
 | false=>
  cases hl:y5k z op with
  | true=>unfold Xz at h;rw [hl] at h;cases h
  | false=>rw [y3k hl hz] at h;exact absurd h (z9q _)
structure v1t (z:Nat) (ops:Array Oper):Prop where
 ord: ∀(j:Nat) o,ops[j]? =some o→ ∀e∈o.after.toList,Region.binds .any e=true→e.on<j
 guard: ∀(j:Nat) o,ops[j]? =some o→(Xz z o.op=.alloc ∨Xz z o.op=.birth)→o.guard=none
 bits: ∀(j:Nat) o,ops[j]? =some o→ ∀i,((w4j ops.toList []).getD j 0).testBit i=true→i<j∧z9z ops i o
 pair: ∀(i j:Nat) p o,i<j→ops[i]? =some p→ops[j]? =some o→z9z ops i o∨(p.apart ops o=true∧x6h (Xz z p.op) (Xz z o.op)=true∧(Xz z o.op=.read →z3o ops i=true)∧(Xz z p.op=.read →z3o ops j=true))
 dst: ∀(i j:Nat) p o d,i<j→ops[i]? =some p→ops[j]? =some o→p.dst=some d→o.dst≠some d
 alloc: ∀(i j:Nat) p o,i<j→ops[i]? =some p→ops[j]? =some o→Xz z o.op=.alloc →p.apart ops o=true
 birth: ∀(i j:Nat) p o,i<j→ops[i]? =some p→ops[j]? =some o→Xz z o.op=.birth → ¬(Xz z p.op=.chain ∨Xz z p.op=.call)
theorem z5v {z:Nat} (h:y4b z ops=true):v1t z ops:=by
 have hj: ∀(j:Nat) o,ops[j]? =some o→(o.after.toList.all (fun e=> !Region.binds .any e||Nat.ble (e.on+1) j)=true∧(!(Xy o.op == .alloc ||isBirth z o.op)||o.guard.isNone)=true)∧ ∀(i:Nat) p,i<j→ops[i]? =some p→y6u z ops i j p o=true:=by intro j o ho;have hlt:j<ops.size:=(Array.getElem?_eq_some_iff.1 ho).1;have:=List.all_eq_true.1 h j (List.mem_range.2 hlt);rw [ho] at this;simp only [Bool.and_eq_true] at this;refine ⟨this.1,fun i p hi hp=> ?_⟩;have:=List.all_eq_true.1 this.2 i (List.mem_range.2 hi);rwa [hp] at this
 have ord: ∀(j:Nat) o,ops[j]? =some o→ ∀e∈o.after.toList,Region.binds .any e=true→e.on<j:=by intro j o ho e he hb;have:=List.all_eq_true.1 (hj j o ho).1.1 e he;rw [hb] at this;exact Nat.le_of_ble_eq_true (by simpa using this)
 have bits:=x2w ord ops.toList [] (by simp) (fun k=>by simp) (fun k o hk=>by simp at hk);refine ⟨ord,fun j o ho hk=> ?_,fun j o ho i hb=>bits j o ho i hb,fun i j p o hij hp ho=> ?_,fun i j p o d hij hp ho hd=> ?_,fun i j p o hij hp ho hk=> ?_,fun i j p o hij hp ho hk hc=> ?_⟩
 ·have:=(hj j o ho).1.2;rcases hk with hk | hk
  ·rw [z2b.1 hk] at this
   simpa using this
  ·rw [y3l hk] at this
   simpa using this
 ·have hpo:=(hj j o ho).2 i p hij hp;unfold y6u at hpo;simp only [Bool.and_eq_true,Bool.or_eq_true] at hpo;cases hb:((w4j ops.toList []).getD j 0).testBit i with
  | true=>exact .inl (bits j o ho i hb).2
  | false=>
   right;rcases hpo.1.1.1 with h1 | ⟨h1,h2⟩
   ·rw [hb] at h1;cases h1
   ·have hi:i<ops.size:=(Array.getElem?_eq_some_iff.1 hp).1;have hjl:j<ops.size:=(Array.getElem?_eq_some_iff.1 ho).1;refine ⟨h1,h2,fun hr=> ?_,fun hr=> ?_⟩
    ·unfold z3o;rw [List.any_eq_true];refine ⟨j,List.mem_range.2 hjl,?_⟩;rw [ho,Option.any_some,y7f.1 hr,hb];have:Nat.ble (i+1) j=true:=Nat.ble_eq_true_of_le hij;rw [this];simp
    ·unfold z3o;rw [List.any_eq_true];refine ⟨i,List.mem_range.2 hi,?_⟩;rw [hp,Option.any_some,y7f.1 hr,hb];have:Nat.ble (i+1) j=true:=Nat.ble_eq_true_of_le hij;rw [this];simp
 ·have hpo:=(hj j o ho).2 i p hij hp;unfold y6u at hpo;simp only [Bool.and_eq_true] at hpo;have:=hpo.1.1.2;rw [hd] at this;intro e;rw [e] at this;simp at this
 ·have hpo:=(hj j o ho).2 i p hij hp;unfold y6u at hpo;simp only [Bool.and_eq_true] at hpo;have:=hpo.1.2;rw [z2b.1 hk] at this
  simpa using this
 ·have hpo:=(hj j o ho).2 i p hij hp;unfold y6u at hpo;simp only [Bool.and_eq_true] at hpo;have:=hpo.2;rw [y3l hk] at this;rcases hc with hc | hc <;> rw [hc] at this <;> cases this
theorem Up {z:Nat} {i:Nat} {o:Oper} (ho:ops[i]? =some o):isAlloc ops i=true↔Xz z o.op=.alloc :=by rw [z2b];unfold isAlloc;rw [ho,Option.any_some];simp
theorem z7j (i:Nat):i∈Yw ops↔i<ops.size:=by unfold Yw;simp only [List.mem_append,List.mem_filter,List.mem_range];cases isAlloc ops i <;> simp
theorem Yr :(Yw ops).length =ops.size:=by
 unfold Yw;rw [List.length_append,←List.countP_eq_length_filter,←List.countP_eq_length_filter];have:=List.length_eq_countP_add_countP (isAlloc ops) (l:=List.range ops.size);simp only [List.length_range] at this;have e:(fun i=> !isAlloc ops i)=(fun i=>decide (¬isAlloc ops i=true)):=by funext i;cases isAlloc ops i <;> rfl
 rw [e];omega
def Ord (ops:Array Oper) (i j:Nat):Prop:=(isAlloc ops i=true∧isAlloc ops j=false)∨(isAlloc ops i=isAlloc ops j∧i<j)
theorem z7i :(Yw ops).Pairwise (Ord ops):=by
 unfold Yw;rw [List.pairwise_append];have hr:(List.range ops.size).Pairwise (· < ·):=List.pairwise_lt_range;refine ⟨?_,?_,?_⟩
 ·refine ((hr.filter _).imp_of_mem fun {a b} ha hb h=> ?_);have h1:=(List.mem_filter.1 ha).2;have h2:=(List.mem_filter.1 hb).2;exact .inr ⟨h1.trans h2.symm,h⟩
 ·refine ((hr.filter _).imp_of_mem fun {a b} ha hb h=> ?_);have h1:=(List.mem_filter.1 ha).2;have h2:=(List.mem_filter.1 hb).2;refine .inr ⟨?_,h⟩;cases e1:isAlloc ops a <;> cases e2:isAlloc ops b <;> simp_all
 ·intro a ha b hb;have h1:=(List.mem_filter.1 ha).2;have h2:=(List.mem_filter.1 hb).2;exact .inl ⟨h1,by simpa using h2⟩
theorem y9t {k1 k2:Nat} (h:k1<k2) (h2:k2<(Yw ops).length):Ord ops ((Yw ops)[k1]'(by omega)) (Yw ops)[k2]:=
 List.pairwise_iff_getElem.1 z7i k1 k2 (by omega) h2 h
end
theorem x1r {P:Program} {S:Specs} {R:Runner} {ops:Array Oper} {cx:Ctx}: ∀(l:List (Bool×Oper)) (st st':St),y6w P S R ops cx l st=some st'→
  ∃f:Nat→St,f 0=st∧f l.length=st'∧ ∀(k:Nat) (h:k<l.length),y5f P S R ops cx l[k] (f k)=some (f (k+1))
 | [],st,st',h=>by have h:some st=some st':=h;obtain rfl:=Option.some.inj h;exact ⟨fun _=>st,rfl,rfl,fun k h=>by simp at h⟩
 | x::l,st,st',h=>by
  rw [z5i,Option.bind_eq_some_iff] at h;obtain ⟨st1,h1,h2⟩:=h;obtain ⟨f,f0,fn,fs⟩:=x1r l st1 st' h2;refine ⟨fun k=>match k with | 0=>st | k+1=>f k,rfl,fn,fun k hk=> ?_⟩;cases k with
  | zero=>simpa [f0] using h1
  | succ k=>simpa using fs k (by simpa using hk)
def x3m (ops:Array Oper) (x y:Foot):Prop:=clash x.2.1 y.2.2=true∨clash x.2.2 y.2.1=true→ordered ops x.1 y.1=true
theorem x6v {ops:Array Oper} {x y:Foot} (h:w0o ops x y=true):x3m ops x y:=by
 intro hc;unfold w0o at h;simp only [Bool.or_eq_true,Bool.not_eq_true',Bool.or_eq_false_iff] at h;rcases h with ⟨h1,h2⟩ | h
 ·rcases hc with hc | hc
  ·rw [h1] at hc;cases hc
  ·rw [h2] at hc;cases hc
 ·exact h
theorem z1v {z:Nat} {P:Program} {S:Specs} {R:Runner} {ops:Array Oper} {cx:Ctx}: ∀(l:List (Nat×Bool×Oper)) (acc:List Foot) (st st':St),z8g z P S R ops cx l acc st=some st'→
  ∃f:Nat→St,f 0=st∧f l.length=st'∧(∀(k:Nat) (h:k<l.length),x3z z P S R ops cx l[k].2 (f k)=some (f (k+1)))∧
   (∀(k:Nat) (h:k<l.length),∀y∈acc,x3m ops (z2p S l[k] (f k).eval) y∨lateF z ops l[k] (f k).eval (f k).mem y=true)∧
   ∀(q k:Nat) (hq:q<k) (h:k<l.length),x3m ops (z2p S l[k] (f k).eval) (z2p S (l[q]'(by omega)) (f q).eval)∨lateF z ops l[k] (f k).eval (f k).mem (z2p S (l[q]'(by omega)) (f q).eval)=true
 | [],acc,st,st',h=>by have h:some st=some st':=h;obtain rfl:=Option.some.inj h;exact ⟨fun _=>st,rfl,rfl,fun k h=>by simp at h,fun k h=>by simp at h,fun q k _ h=>by simp at h⟩
 | x ::l,acc,st,st',h=>by
  have h:(bif acc.all (fun y=>w0o ops (z2p S x st.eval) y||lateF z ops x st.eval st.mem y) then
    match x3z z P S R ops cx x.2 st with
    | some st'=>z8g z P S R ops cx l (z2p S x st.eval::acc) st'
    | none=>none
   else none)=some st':=h
  obtain ⟨fG,h⟩:=Zo h;split at h
  ·rename_i st1 h1;obtain ⟨f,f0,fn,fs,fa,fp⟩:=z1v l _ st1 st' h;refine ⟨fun k=>match k with | 0=>st | k+1=>f k,rfl,fn,fun k hk=> ?_,fun k hk y hy=> ?_,fun q k hqk hk=> ?_⟩
   ·cases k with
    | zero=>simpa [f0] using h1
    | succ k=>simpa using fs k (by simpa using hk)
   ·cases k with
    | zero=>have:=List.all_eq_true.1 fG y hy;rw [Bool.or_eq_true] at this;exact this.imp x6v id
    | succ k=>simpa using fa k (by simpa using hk) y (by simp [hy])
   ·cases k with
    | zero=>omega
    | succ k=>
     cases q with
     | zero=>simpa using fa k (by simpa using hk) (z2p S x st.eval) (by simp)
     | succ q=>simpa using fp q k (by omega) (by simpa using hk)
  ·cases h
theorem x0r {S:Specs} {op:Op} (h:Xy op=.chain) (ev:Operand→AVal):wrC S op ev=x0m op ev:=by
 cases op with
 | call c=>
  obtain ⟨callee,args,argTypes⟩:=c;cases callee with
  | value f=>cases h
  | _=>rfl
 | _=>rfl
end Go.Am
namespace Go.Am
theorem z2e (p q:Nat→Bool) (i:Nat): ∀(n:Nat),(∀k,k≠i→q k=p k)→p i=true→q i=false→i<n→(List.range n).countP q+1=(List.range n).countP p
 | 0,_,_,_,h=>absurd h (Nat.not_lt_zero _)
 | n+1,hpq,hp,hq,h=>by
  rw [List.range_succ,List.countP_append,List.countP_append];by_cases hi:i<n
  ·have:=z2e p q i n hpq hp hq hi;have e:q n=p n:=hpq n (by omega);simp only [List.countP_cons,List.countP_nil,e];omega
  ·have hin:i=n:=by omega
   subst hin;have e:(List.range i).countP q=(List.range i).countP p:=List.countP_congr fun k hk=>by rw [hpq k (by have:=List.mem_range.1 hk;omega)]
   simp [e,hp,hq]
section
variable {P:Program}
theorem Rel.unborn {ρ:Rho} {mem:Mem} {next:Nat} {w:World} (h:Rel ρ mem next w) (o:Option ABlk):Rel ρ (Xi mem next o) (next+1) w:=by
 have ne: ∀b l,ρ b=some l→b≠next:=fun b l e=>by have:=h.dom b l e;omega
 refine ⟨fun b l e=>by have:=h.dom b l e;omega,fun b b' l l' e e' he hs hs'=> ?_,fun b l ab e hm=> ?_,h.old,fun b l e hs=>h.sep b l e (by rwa [Zw _ _ (ne b l e)] at hs),h.real,fun b hb=>by rw [Zw _ _ (by omega)];exact h.bd b (by omega),fun j l e=>Nat.lt_succ_of_lt (h.ldom j l e)⟩
 ·rw [Zw _ _ (ne b l e)] at hs;rw [Zw _ _ (ne b' l' e')] at hs';exact h.inj b b' l l' e e' he hs hs'
 ·rw [Zw _ _ (ne b l e)] at hm;exact h.blk b l ab e hm
theorem Rel.birth {ρ:Rho} {mem:Mem} {next:Nat} {w:World} (h:Rel ρ mem next w) {b:Nat} {cs:List AVal} {ty:TypeId} (hb:b<next) (hn:ρ b=none) (hm:Yd mem b=some ⟨cs,ty,none⟩) {vs:Array Value} (el:TypeId) (hv:Vk ρ cs vs):
  Rel (Vd ρ b ⟨w.heap.size,0,cs.length,vs.size⟩) mem next {w with heap:=w.heap.push (.cells vs el)}:=by
 have hle:=Qm (l:=⟨w.heap.size,0,cs.length,vs.size⟩) hn;have dD: ∀c l,Vd ρ b ⟨w.heap.size,0,cs.length,vs.size⟩ c=some l→(c=b∧l=⟨w.heap.size,0,cs.length,vs.size⟩)∨(c≠b∧ρ c=some l):=fun c l e=>by
  rw [Vh] at e;by_cases hc:c=b
  ·rw [if_pos hc] at e;exact .inl ⟨hc,(Option.some.inj e).symm⟩
  ·rw [if_neg hc] at e;exact .inr ⟨hc,e⟩
 refine ⟨fun c l e=> ?_,fun c c' l l' e e' hbl hs hs'=> ?_,fun c l ab e hc=> ?_,fun k o e=> ?_,fun c l e=> ?_,fun c l e=> ?_,h.bd,h.ldom⟩
 ·rcases dD c l e with ⟨rfl,_⟩ | ⟨_,e⟩
  ·exact hb
  ·exact h.dom c l e
 ·rcases dD c l e with ⟨hc,hl⟩ | ⟨hc,e2⟩ <;> rcases dD c' l' e' with ⟨hc',hl'⟩ | ⟨hc',e2'⟩
  ·rw [hc,hc']
  ·have:=h.real c' l' e2';rw [hl] at hbl;simp at hbl;omega
  ·have:=h.real c l e2;rw [hl'] at hbl;simp at hbl;omega
  ·exact h.inj c c' l l' e2 e2' hbl hs hs'
 ·rcases dD c l e with ⟨rfl,rfl⟩ | ⟨_,e⟩
  ·rw [hm] at hc;obtain rfl:=Option.some.inj hc;have h1:=hv.1;refine ⟨rfl,by simp only;omega,(fun A e=>by cases e),vs,el,by simp,by simp,fun i hi=> ?_⟩;have h2:i<vs.size:=by simp only at hi;omega
   exact ⟨vs[i],by simp [Array.getElem?_eq_getElem h2],(hv.2 i hi h2).mono hle⟩
  ·refine (h.blk c l ab e hc).world hle ?_;have:=h.real c l e;simp [Array.getElem?_push,Nat.ne_of_lt this]
 ·have hk:=h.old k o e;have:k<w.heap.size:=(Array.getElem?_eq_some_iff.1 hk).1;simp only [Array.getElem?_push,Nat.ne_of_lt this,if_false];exact hk
 ·intro hs;rcases dD c l e with ⟨rfl,rfl⟩ | ⟨_,e⟩
  ·exact h.hold _ (Nat.le_refl _)
  ·exact h.sep c l e hs
 ·rcases dD c l e with ⟨rfl,rfl⟩ | ⟨_,e⟩
  ·simp
  ·have:=h.real c l e;simp;omega
structure Reg (S:Specs) (z:Nat) (P:Program) (ops:Array Oper) (cx:Ctx) (st:St) (f:Nat→St):Prop where
 chk:v1t z ops
 f0:f 0=st
 hcx:cx.floor≤st.next
 ob: ∀k,k≤ops.size→(f k).ob =true
 step: ∀(k:Nat) (h:k<(Yw ops).length),v6v S z P ops cx (z3o ops (Yw ops)[k],ops.getD (Yw ops)[k] default) (f k) (f (k+1))
 foot: ∀(q k:Nat) (hq:q<k) (h:k<(Yw ops).length),x3m ops (z2p S ((Yw ops)[k],z3o ops (Yw ops)[k],ops.getD (Yw ops)[k] default) (f k).eval) (z2p S ((Yw ops)[q],z3o ops (Yw ops)[q],ops.getD (Yw ops)[q] default) (f q).eval)∨
  lateF z ops ((Yw ops)[k],z3o ops (Yw ops)[k],ops.getD (Yw ops)[k] default) (f k).eval (f k).mem (z2p S ((Yw ops)[q],z3o ops (Yw ops)[q],ops.getD (Yw ops)[q] default) (f q).eval)=true
variable {Sp:Specs} {z:Nat} {ops:Array Oper} {cx:Ctx} {st:St} {f:Nat→St}
def at_ (ops:Array Oper) (k:Nat):Nat:=(Yw ops).getD k ops.size
theorem v6s {k:Nat} (h:k<ops.size):at_ ops k<ops.size:=by
 have hl:k<(Yw ops).length :=by rw [Yr];exact h
 have:at_ ops k=(Yw ops)[k]:=by simp [at_,hl]
 rw [this];exact (z7j _).1 (List.getElem_mem hl)
theorem z0m {k1 k2:Nat} (h:k1<k2) (h2:k2<ops.size):Ord ops (at_ ops k1) (at_ ops k2):=by
 have hl2:k2<(Yw ops).length :=by rw [Yr];exact h2
 have hl1:k1<(Yw ops).length :=by omega
 have:=y9t h hl2
 simpa [at_,hl1,hl2] using this
theorem u7g {i:Nat} (h:i<ops.size): ∃k,k<ops.size∧at_ ops k=i:=by obtain ⟨k,hk,e⟩:=List.getElem_of_mem ((z7j (ops:=ops) i).2 h);exact ⟨k,by rw [Yr] at hk;exact hk,by simp [at_,hk,e]⟩
theorem Reg.step' (g:Reg Sp z P ops cx st f) {k:Nat} (h:k<ops.size): ∃o,ops[at_ ops k]? =some o∧v6v Sp z P ops cx (z3o ops (at_ ops k),o) (f k) (f (k+1)):=by
 have hl:k<(Yw ops).length :=by rw [Yr];exact h
 have e:at_ ops k=(Yw ops)[k]:=by simp [at_,hl]
 have hlt:=v6s h;refine ⟨ops[at_ ops k],by simp [hlt],?_⟩;have:=g.step k hl;rw [←e] at this;have hd:ops.getD (at_ ops k) default=ops[at_ ops k]:=by simp [hlt]
 rw [hd] at this;exact this
theorem Reg.foot' (g:Reg Sp z P ops cx st f) {q k:Nat} (hq:q<k) (h:k<ops.size) {o x:Oper} (ho:ops[at_ ops k]? =some o) (hx:ops[at_ ops q]? =some x):
  x3m ops (at_ ops k,x5g o.op (f k).eval,wrC Sp o.op (f k).eval) (at_ ops q,x5g x.op (f q).eval,wrC Sp x.op (f q).eval)∨lateF z ops (at_ ops k,z3o ops (at_ ops k),o) (f k).eval (f k).mem (at_ ops q,x5g x.op (f q).eval,wrC Sp x.op (f q).eval)=true:=by
 have hl:k<(Yw ops).length :=by rw [Yr];exact h
 have hl2:q<(Yw ops).length :=by omega
 have e:at_ ops k=(Yw ops)[k]:=by simp [at_,hl]
 have e2:at_ ops q=(Yw ops)[q]:=by simp [at_,hl2]
 have:=g.foot q k hq hl;rw [←e,←e2] at this;have hd:ops.getD (at_ ops k) default=o:=by simp [ho]
 have hd2:ops.getD (at_ ops q) default=x:=by simp [hx]
 rw [hd,hd2] at this;exact this
theorem Reg.next_le (g:Reg Sp z P ops cx st f): ∀{a b:Nat},a≤b→b≤ops.size→(f a).next ≤(f b).next :=by
 intro a b hab hb
 induction b with
 | zero => have:a=0:=by omega
           subst this;exact Nat.le_refl _
 | succ b ih=>
  by_cases e:a=b+1
  ·subst e;exact Nat.le_refl _
  ·obtain ⟨o,_,s⟩:=g.step' (k:=b) (by omega);exact Nat.le_trans (ih (by omega) (by omega)) s.inv.nxt
theorem Reg.bd (g:Reg Sp z P ops cx st f) (h0: ∀b,st.next≤b→Yd st.mem b=none): ∀{k:Nat},k≤ops.size→ ∀b,(f k).next ≤b→Yd (f k).mem b=none:=by
 intro k hk
 induction k with
 | zero=>rw [g.f0];exact h0
 | succ k ih=>obtain ⟨o,_,s⟩:=g.step' (k:=k) (by omega);exact s.inv.bd (ih (by omega))
theorem Reg.slot_stays (g:Reg Sp z P ops cx st f) {t:Tmp}: ∀{a b:Nat},a≤b→b≤ops.size→(∀k o,a≤k→k<b→ops[at_ ops k]? =some o→o.dst≠some t)→(f b).tmp t=(f a).tmp t:=by
 intro a b hab hb hno
 induction b with
 | zero => have:a=0:=by omega
           subst this;rfl
 | succ b ih=>
  by_cases e:a=b+1
  ·subst e;rfl
  ·obtain ⟨o,ho,s⟩:=g.step' (k:=b) (by omega);rw [s.other (g.ob _ hb) t (hno b o (by omega) (by omega) ho)];exact ih (by omega) (by omega) fun k o h1 h2=>hno k o h1 (by omega)
def Km (z:Nat) (o:Oper):Prop:=Xz z o.op=.chain ∨Xz z o.op=.call
def x5l (z:Nat) (o:Oper):Prop:=Xz z o.op=.pure ∨Xz z o.op=.lit
def z6z (z:Nat) (o:Oper):Prop:=Xz z o.op=.alloc ∨Xz z o.op=.birth
theorem x6i (z:Nat) (o:Oper):x5l z o∨Xz z o.op=.read ∨z6z z o∨Km z o:=by unfold Km x5l z6z;cases Xz z o.op <;> simp
theorem Reg.mem_stays (g:Reg Sp z P ops cx st f): ∀{a b:Nat},a≤b→b≤ops.size→(∀k o,a≤k→k<b→ops[at_ ops k]? =some o→x5l z o∨Xz z o.op=.read)→(f b).mem =(f a).mem ∧(f b).next =(f a).next :=by
 intro a b hab hb hno
 induction b with
 | zero => have:a=0:=by omega
           subst this;exact ⟨rfl,rfl⟩
 | succ b ih=>
  by_cases e:a=b+1
  ·subst e;exact ⟨rfl,rfl⟩
  ·obtain ⟨o,ho,s⟩:=g.step' (k:=b) (by omega);obtain ⟨e1,e2⟩:=s.stay (by rcases hno b o (by omega) (by omega) ho with (k | k) | k <;> simp [k]);obtain ⟨e3,e4⟩:=ih (by omega) (by omega) fun k o h1 h2=>hno k o h1 (by omega);exact ⟨e1.trans e3,e2.trans e4⟩
theorem Reg.blk_stays (g:Reg Sp z P ops cx st f) {x:Nat}: ∀{a b:Nat},a≤b→b≤ops.size→x<(f a).next →
  (∀k o,a≤k→k<b→ops[at_ ops k]? =some o→x5l z o∨Xz z o.op=.read ∨(Xz z o.op=.call ∧z3o ops (at_ ops k)=true∧wrC Sp o.op (f k).eval ≠some x)∨(Xz z o.op=.chain ∧x0m o.op (f k).eval ≠some x)∨z6z z o)→Yd (f b).mem x=Yd (f a).mem x:=by
 intro a b hab hb hx hno
 induction b with
 | zero => have:a=0:=by omega
           subst this;rfl
 | succ b ih=>
  by_cases e:a=b+1
  ·subst e;rfl
  ·obtain ⟨o,ho,s⟩:=g.step' (k:=b) (by omega);have ih:=ih (by omega) (by omega) fun k o h1 h2=>hno k o h1 (by omega);rw [←ih];rcases hno b o (by omega) (by omega) ho with h1 | h1 | ⟨h1,h2,h3⟩ | ⟨h1,h2⟩ | h1
   ·rw [(s.stay (by rcases h1 with k | k <;> simp [k])).1]
   ·rw [(s.stay (.inr (.inl h1))).1]
   ·exact s.lift (g.ob _ hb) h2 h1 x (Nat.lt_of_lt_of_le hx (g.next_le (by omega) (by omega))) h3
   ·exact s.foot (g.ob _ hb) h1 x (Nat.lt_of_lt_of_le hx (g.next_le (by omega) (by omega))) h2
   ·obtain ⟨cells,ty,e1,_,_⟩:=s.fresh (g.ob _ hb) h1 (g.chk.guard _ o ho h1);have:=Nat.lt_of_lt_of_le hx (g.next_le (a:=a) (b:=b) (by omega) (by omega));rw [e1,Zw _ _ (by omega)]
structure Inv (z:Nat) (P:Program) (D:List Deferred) (ops:Array Oper) (cx:Ctx) (st:St) (f:Nat→St) (ρ0:Rho) (w0:World) (S:Nat→Bool) (p:Nat) (ρ:Rho) (a:Act) (w:World):Prop where
 closed:z7v ops S
 defers:a.defers=D
 tsz:a.tmps.size=cx.n
 done: ∀k o d,k<ops.size→ops[at_ ops k]? =some o→S (at_ ops k)=true→o.dst=some d→Yy ρ ((f (k+1)).tmp d) (a.tmps.getD d undef)
 undone: ∀t,(∀i o,ops[i]? =some o→S i=true→o.dst≠some t)→Yy ρ (st.tmp t) (a.tmps.getD t undef)
 ple:p≤ops.size
 past: ∀k o,k<ops.size→ops[at_ ops k]? =some o→z6z z o→k<p
 chain: ∀k o,k<ops.size→ops[at_ ops k]? =some o→Km z o→(S (at_ ops k)=true↔k<p)
 rel:Rel ρ (f p).mem (f p).next w
 ev:Ev ρ0 ρ cx.floor st.mem st.next (f p).mem (f p).next w0 w
 late: ∀k q o x b ab,k<q→q<p→q<ops.size→ops[at_ ops k]? =some o→ops[at_ ops q]? =some x→S (at_ ops k)=false→Km z x→z0p z ops (at_ ops k) (at_ ops q)=true→x7x x.op (f q).eval (f q).mem =some b→Yd (f q).mem b=some ab→Rel ρ (Xi .leaf b (some ab)) (f p).next w
 allocs: ∀k o,k<ops.size→ops[at_ ops k]? =some o→z6z z o→S (at_ ops k)=false→st.next≤(f k).next ∧(f k).next <(f p).next ∧ρ (f k).next =none∧Yd (f p).mem (f k).next =Yd (f (k+1)).mem (f k).next
theorem y3f {o:Oper} {t:Tmp} (h:Operand.tmp t∈o.op.operands):t∈o.looksAt ops:=by unfold Oper.looksAt;rw [List.mem_append];left;rw [List.mem_filterMap];exact ⟨.tmp t,Array.mem_toList_iff.2 h,rfl⟩
theorem y9j {o:Oper} {d:Tmp} (h:Um ops o=some d):d∈o.looksAt ops:=by
 unfold Oper.looksAt;rw [List.mem_append];right;unfold Um at h;cases hg:o.guard with
 | none=>rw [hg] at h;cases h
 | some g=>obtain ⟨j,want⟩:=g;rw [hg] at h;simp only [Option.bind_some] at h;simp [h]
theorem x7y (g:Reg Sp z P ops cx st f) {i:Nat} {o:Oper} (ho:ops[i]? =some o) (hk:Xz z o.op=.alloc):o.looksAt ops=[]:=by
 unfold Oper.looksAt;rw [g.chk.guard i o ho (.inl hk)];rw [z2b] at hk;obtain ⟨dst,op,type,pos,after,guard⟩:=o;simp only at hk ⊢;cases op with
 | alloc t=>rfl
 | call c=>
  obtain ⟨callee,args,argTypes⟩:=c;cases callee with
  | builtin b=>cases b <;> cases hk
  | value f=>cases hk
  | invoke r m=>cases hk
 | _=>cases hk
section
variable {D:List Deferred} {ρ0:Rho} {w0:World} {S:Nat→Bool} {p:Nat} {ρ:Rho} {a:Act} {w:World}
theorem y9u (g:Reg Sp z P ops cx st f) {i j:Nat} {x y:Oper} {d:Tmp} (hi:ops[i]? =some x) (hj:ops[j]? =some y) (hx:x.dst=some d) (hy:y.dst=some d):i=j:=by
 rcases Nat.lt_trichotomy i j with h | h | h
 ·exact absurd hy (g.chk.dst i j x y d h hi hj hx)
 ·exact h
 ·exact absurd hx (g.chk.dst j i y x d h hj hi hy)
theorem Inv.looks (g:Reg Sp z P ops cx st f) (I:Inv z P D ops cx st f ρ0 w0 S p ρ a w) {k:Nat} {o:Oper} (hk:k<ops.size) (ho:ops[at_ ops k]? =some o) (hns:S (at_ ops k)=false) (dE:x0l S o) {t:Tmp} (ht:t∈o.looksAt ops):
  Yy ρ ((f k).tmp t) (a.tmps.getD t undef):=by
 by_cases hw: ∃i x,ops[i]? =some x∧S i=true∧x.dst=some t
 ·obtain ⟨i,x,hx,hs,hd⟩:=hw;have hil:i<ops.size:=(Array.getElem?_eq_some_iff.1 hx).1;obtain ⟨k',hk',rfl⟩:=u7g hil;have hne:k'≠k:=fun e=>by rw [e,hns] at hs;cases hs
  have hlt:k'<k:=by
   rcases Nat.lt_or_ge k' k with h | h
   ·exact h
   ·exfalso;have hkk:k<k':=(by omega);rcases Nat.lt_trichotomy (at_ ops k) (at_ ops k') with hij | hij | hij
    ·rcases g.chk.pair _ _ _ _ hij ho hx with hf | ⟨hap,_⟩
     ·have:=hf S I.closed (fun e he hb=>I.closed _ _ hx hs e he hb);rw [hns] at this;cases this
     ·obtain ⟨_,_,h3⟩:=Oper.apart_spec hap;exact h3 t hd ht
    ·rw [hij,hs] at hns;cases hns
    ·rcases z0m hkk hk' with ⟨h1,_⟩ | ⟨_,h2⟩
     ·rw [x7y g ho ((Up (z:=z) ho).1 h1)] at ht;cases ht
     ·omega
  have hst:(f k).tmp t=(f (k'+1)).tmp t:=g.slot_stays (by omega) (by omega) fun q y h1 h2 hy hyd=>by
   have:=y9u g hx hy hd hyd;have e:at_ ops k'=at_ ops q:=this;rcases z0m (ops:=ops) (k1:=k') (k2:=q) (by omega) (by omega) with ⟨h1,h2⟩ | ⟨_,h2⟩
   ·rw [e,h2] at h1;cases h1
   ·omega
  rw [hst];exact I.done k' x t hk' hx hs hd
 ·have hno: ∀i x,ops[i]? =some x→S i=true→x.dst≠some t:=fun i x hx hs hd=>hw ⟨i,x,hx,hs,hd⟩;have hst:(f k).tmp t=(f 0).tmp t:=g.slot_stays (Nat.zero_le _) (by omega) fun q y _ h2 hy hyd=>by
   have hqs:S (at_ ops q)=false:=by
    cases e:S (at_ ops q) with
    | false=>rfl
    | true=>exact absurd hyd (hno _ y hy e)
   rcases Nat.lt_trichotomy (at_ ops q) (at_ ops k) with hij | hij | hij
   ·rcases g.chk.pair _ _ _ _ hij hy ho with hf | ⟨hap,_⟩
    ·have:=hf S I.closed dE;rw [hqs] at this;cases this
    ·obtain ⟨h1,_,_⟩:=Oper.apart_spec hap;exact h1 t hyd ht
   ·rcases z0m (ops:=ops) h2 hk with ⟨h1,h3⟩ | ⟨_,h3⟩
    ·rw [hij,h3] at h1;cases h1
    ·omega
   ·rcases z0m (ops:=ops) h2 hk with ⟨h1,_⟩ | ⟨_,h3⟩
    ·have hap:=g.chk.alloc _ _ _ _ hij ho hy ((Up (z:=z) hy).1 h1);obtain ⟨_,_,h3⟩:=Oper.apart_spec hap;exact h3 t hyd ht
    ·omega
  rw [hst,g.f0];exact I.undone t hno
theorem Inv.operands (g:Reg Sp z P ops cx st f) (I:Inv z P D ops cx st f ρ0 w0 S p ρ a w) {k:Nat} {o:Oper} (hk:k<ops.size) (ho:ops[at_ ops k]? =some o) (hns:S (at_ ops k)=false) (dE:x0l S o):Kn ρ (f k).eval a.eval o.op:=by
 intro x hx;cases x with
 | tmp t=>exact I.looks g hk ho hns dE (y3f hx)
 | const v=>exact w7v v
 | global g=>exact .undef _
 | func f=>exact .fn f [] #[] rfl fun i h1 _=>by simp at h1
theorem Inv.slots (g:Reg Sp z P ops cx st f) (I:Inv z P D ops cx st f ρ0 w0 S p ρ a w) {k:Nat} {o:Oper} (hk:k<ops.size) (ho:ops[at_ ops k]? =some o) (hns:S (at_ ops k)=false) {ρ':Rho} (hle:ρ.le ρ') {u:Value}
  (dI: ∀d,o.dst=some d→Yy ρ' ((f (k+1)).tmp d) u) {S':Nat→Bool} (hS: ∀i,S' i=(S i||i == at_ ops k)):
  (∀k' x d,k'<ops.size→ops[at_ ops k']? =some x→S' (at_ ops k')=true→x.dst=some d→Yy ρ' ((f (k'+1)).tmp d) ((a.put o.dst u).tmps.getD d undef))∧
  (∀t,(∀i x,ops[i]? =some x→S' i=true→x.dst≠some t)→Yy ρ' (st.tmp t) ((a.put o.dst u).tmps.getD t undef)):=by
 have other: ∀t,o.dst≠some t→(a.put o.dst u).tmps.getD t undef=a.tmps.getD t undef:=fun t ht=>by
  cases hd:o.dst with
  | none=>rfl
  | some d=>have hne:d≠t:=fun e=>ht (by rw [hd,e]);simp [Act.put,Array.getElem?_setIfInBounds_ne hne]
 obtain ⟨_,ho',s⟩:=g.step' hk;rw [ho] at ho';obtain rfl:=Option.some.inj ho';refine ⟨fun k' x d hk' hx hs hd=> ?_,fun t hno=> ?_⟩
 ·by_cases hod:o.dst=some d
  ·have e:=y9u g ho hx hod hd;have hkk:k'=k:=by
    rcases Nat.lt_trichotomy k' k with h | h | h
    ·rcases z0m (ops:=ops) h hk with ⟨h1,h3⟩ | ⟨_,h3⟩
     ·rw [←e,h3] at h1;cases h1
     ·omega
    ·exact h
    ·rcases z0m (ops:=ops) h hk' with ⟨h1,h3⟩ | ⟨_,h3⟩
     ·rw [e,h3] at h1;cases h1
     ·omega
   subst hkk;have hlt:d<a.tmps.size:=by rw [I.tsz];exact s.slot d hod
   have:(a.put o.dst u).tmps.getD d undef=u:=by simp [Act.put,hod,hlt]
   rw [this];exact dI d hod
  ·rw [other d hod];have hne:at_ ops k'≠at_ ops k:=fun e=>by rw [e,ho] at hx;obtain rfl:=Option.some.inj hx;exact hod hd
   have hs':S (at_ ops k')=true:=by
    rw [hS] at hs
    simpa [hne] using hs
   exact (I.done k' x d hk' hx hs' hd).mono hle
 ·have hod:o.dst≠some t:=hno _ o ho (by rw [hS];simp);rw [other t hod];exact (I.undone t fun i x hx hs=>hno i x hx (by rw [hS,hs];rfl)).mono hle
theorem Inv.closes (I:Inv z P D ops cx st f ρ0 w0 S p ρ a w) {i:Nat} {o:Oper} (ho:ops[i]? =some o) (dE:x0l S o) {S':Nat→Bool} (hS: ∀j,S' j=(S j||j == i)):z7v ops S':=by
 intro j x hx hs e he hb;rw [hS] at hs ⊢;by_cases hj:j=i
 ·subst hj;rw [ho] at hx;obtain rfl:=Option.some.inj hx;rw [dE e he hb];rfl
 ·have:S j=true:=by simpa [hj] using hs
  rw [I.closed j x hx this e he hb];rfl
theorem w3m {i:Nat} {l:Bool} {o:Oper} {ev:Operand→AVal} {mem:Mem} {y:Foot} (h:Xz z o.op=.read):lateF z ops (i,l,o) ev mem y=false:=by
 have hk:x7x o.op ev mem=none:=by
  unfold x7x;split
  ·rename_i e;rw [e] at h;cases h
  ·rfl
 unfold lateF;split
 ·rw [hk]
 ·rfl
theorem w3l {i j b:Nat} {l:Bool} {x:Oper} {ev:Operand→AVal} {mem:Mem} {wr:Option Nat} (h:lateF z ops (i,l,x) ev mem (j,some b,wr)=true):z0p z ops j i=true∧x7x x.op ev mem=some b:=by
 unfold lateF at h;split at h
 ·rename_i j' b' e;simp only [Prod.mk.injEq,Option.some.injEq] at e;obtain ⟨rfl,rfl,rfl⟩:=e;split at h
  ·rename_i b0 hb0;simp only [Bool.and_eq_true] at h;obtain rfl:=Nat.eq_of_beq_eq_true h.1;exact ⟨h.2,hb0⟩
  ·cases h
 ·cases h
theorem Inv.between (g:Reg Sp z P ops cx st f) (I:Inv z P D ops cx st f ρ0 w0 S p ρ a w) {k:Nat} {o:Oper} (hk:k<ops.size) (ho:ops[at_ ops k]? =some o) (hns:S (at_ ops k)=false) (dE:x0l S o) (eL:Xz z o.op=.read) {b:Nat} (hb:x5g o.op (f k).eval =some b):
  (∀q x,p≤q→q<k→ops[at_ ops q]? =some x→x5l z x∨Xz z x.op=.read ∨(Xz z x.op=.call ∧z3o ops (at_ ops q)=true∧wrC Sp x.op (f q).eval ≠some b)∨(Xz z x.op=.chain ∧x0m x.op (f q).eval ≠some b)∨z6z z x)∧
  (∀q x,k≤q→q<p→ops[at_ ops q]? =some x→x5l z x∨Xz z x.op=.read ∨(Xz z x.op=.call ∧z3o ops (at_ ops q)=true∧wrC Sp x.op (f q).eval ≠some b)∨(Xz z x.op=.chain ∧x0m x.op (f q).eval ≠some b)∨z6z z x∨(Km z x∧z0p z ops (at_ ops k) (at_ ops q)=true∧x7x x.op (f q).eval (f q).mem =some b)):=by
 have nal:isAlloc ops (at_ ops k)=false:=by
  cases e:isAlloc ops (at_ ops k) with
  | false=>rfl
  | true=>have:=(Up (z:=z) ho).1 e;rw [eL] at this;cases this
 constructor
 ·intro q x h1 h2 hx;rcases x6i z x with h | h | h | h
  ·exact .inl h
  ·exact .inr (.inl h)
  ·have:=I.past q x (by omega) hx h;omega
  ·have hqs:S (at_ ops q)=false:=by
    cases e:S (at_ ops q) with
    | false=>rfl
    | true=>have:=(I.chain q x (by omega) hx h).1 e;omega
   have hlt:at_ ops q<at_ ops k:=by
    rcases z0m (ops:=ops) h2 hk with ⟨h3,_⟩ | ⟨_,h3⟩
    ·have:=I.past q x (by omega) hx (.inl ((Up (z:=z) hx).1 h3));omega
    ·exact h3
   rcases g.chk.pair _ _ _ _ hlt hx ho with hf | ⟨_,hkd,hl,_⟩
   ·have:=hf S I.closed dE;rw [hqs] at this;cases this
   ·have no:wrC Sp x.op (f q).eval ≠some b:=fun hw=>by
     have:=(g.foot' h2 hk ho hx).resolve_right (fun hl=>by
      rw [w3m eL] at hl;cases hl) (.inl (by rw [hb,hw];exact Nat.beq_refl b))
     unfold ordered at this;simp only [Bool.or_eq_true] at this;rcases this with this | this
     ·have:=(g.chk.bits _ _ hx _ this).1;omega
     ·have:=(g.chk.bits _ _ ho _ this).2 S I.closed dE;rw [hqs] at this;cases this
    rcases h with h | h
    ·exact .inr (.inr (.inr (.inl ⟨h,by rw [←x0r ((y9n (by intro e;cases e) (by intro e;cases e)).1 h).1];exact no⟩)))
    ·exact .inr (.inr (.inl ⟨h,hl eL,no⟩))
 ·intro q x h1 h2 hx;have hp:=I.ple;rcases x6i z x with h | h | h | h
  ·exact .inl h
  ·exact .inr (.inl h)
  ·exact .inr (.inr (.inr (.inr (.inl h))))
  ·have hqs:S (at_ ops q)=true:=(I.chain q x (by omega) hx h).2 h2;have hne:q≠k:=fun e=>by rw [e,hns] at hqs;cases hqs
   have hlt:at_ ops k<at_ ops q:=by
    rcases z0m (ops:=ops) (k1:=k) (k2:=q) (by omega) (by omega) with ⟨h3,_⟩ | ⟨_,h3⟩
    ·rw [nal] at h3;cases h3
    ·exact h3
   rcases g.chk.pair _ _ _ _ hlt ho hx with hf | ⟨_,hkd,_,hl⟩
   ·have:=hf S I.closed fun e he hb=>I.closed _ _ hx hqs e he hb;rw [hns] at this;cases this
   ·rcases g.foot' (q:=k) (k:=q) (by omega) (by omega) hx ho with hfo | hla
    rotate_left
    ·rw [hb] at hla;exact .inr (.inr (.inr (.inr (.inr ⟨h,w3l hla⟩))))
    have no:wrC Sp x.op (f q).eval ≠some b:=fun hw=>by
     have:=hfo (.inr (by rw [hb,hw];exact Nat.beq_refl b));unfold ordered at this;simp only [Bool.or_eq_true] at this;rcases this with this | this
     ·have:=(g.chk.bits _ _ ho _ this).1;omega
     ·have:=(g.chk.bits _ _ hx _ this).2 S I.closed fun e he hb=>I.closed _ _ hx hqs e he hb;rw [hns] at this;cases this
    rcases h with h | h
    ·exact .inr (.inr (.inr (.inl ⟨h,by rw [←x0r ((y9n (by intro e;cases e) (by intro e;cases e)).1 h).1];exact no⟩)))
    ·exact .inr (.inr (.inl ⟨h,hl eL,no⟩))
theorem Inv.next_chain (g:Reg Sp z P ops cx st f) (I:Inv z P D ops cx st f ρ0 w0 S p ρ a w) {k:Nat} {o:Oper} (hk:k<ops.size) (ho:ops[at_ ops k]? =some o) (hns:S (at_ ops k)=false) (dE:x0l S o) (hch:Km z o):
  p≤k∧(∀q x,q<ops.size→ops[at_ ops q]? =some x→Km z x→(S (at_ ops q)=true↔q<k)):=by
 have nal:isAlloc ops (at_ ops k)=false:=by
  cases e:isAlloc ops (at_ ops k) with
  | false=>rfl
  | true=>have:=(Up (z:=z) ho).1 e;rcases hch with h | h <;> rw [h] at this <;> cases this
 have key: ∀q x,q<ops.size→ops[at_ ops q]? =some x→Km z x→(S (at_ ops q)=true↔q<k):=by
  intro q x hq hx hxc;have nalx:isAlloc ops (at_ ops q)=false:=by
   cases e:isAlloc ops (at_ ops q) with
   | false=>rfl
   | true=>have:=(Up (z:=z) hx).1 e;rcases hxc with h | h <;> rw [h] at this <;> cases this
  have nok: ∀(x y:Oper),Km z x→Km z y→x6h (Xz z x.op) (Xz z y.op)=false:=by
   intro x y hx hy;rcases hx with h | h <;> rcases hy with h' | h' <;> rw [h,h'] <;> rfl
  constructor
  ·intro hs;rcases Nat.lt_trichotomy q k with h | h | h
   ·exact h
   ·subst h;rw [hns] at hs;cases hs
   ·exfalso;have hlt:at_ ops k<at_ ops q:=by
     rcases z0m (ops:=ops) h hq with ⟨h3,_⟩ | ⟨_,h3⟩
     ·rw [nal] at h3;cases h3
     ·exact h3
    rcases g.chk.pair _ _ _ _ hlt ho hx with hf | ⟨_,hkd,_⟩
    ·have:=hf S I.closed fun e he hb=>I.closed _ _ hx hs e he hb;rw [hns] at this;cases this
    ·rw [nok o x hch hxc] at hkd;cases hkd
  ·intro h;have hlt:at_ ops q<at_ ops k:=by
    rcases z0m (ops:=ops) h hk with ⟨h3,_⟩ | ⟨_,h3⟩
    ·rw [nalx] at h3;cases h3
    ·exact h3
   rcases g.chk.pair _ _ _ _ hlt hx ho with hf | ⟨_,hkd,_⟩
   ·exact hf S I.closed dE
   ·rw [nok x o hxc hch] at hkd;cases hkd
 refine ⟨?_,key⟩;rcases Nat.lt_or_ge k p with h | h
 ·have:=(I.chain k o hk ho hch).2 h;rw [hns] at this;cases this
 ·exact h
end
end
end Go.Am
end
