/- A part of a proof: several texts in one. -/
import Derived.Test.YtmfdjaegajdggaaDoorMa0
import Derived.IntWalk
set_option maxRecDepth 1000000
set_option maxHeartbeats 8000000
set_option linter.unusedVariables false
set_option linter.unusedSimpArgs false
noncomputable section
namespace Go.Am
open IntKind (wrap)
section
variable {P:Program} {ρ:Rho}
theorem Ji {t u e:TypeId} {ut:TypeDesc} {i:TypeInfo} {type:TypeId} (hu:P.underlying t=some (.slice e)) (hut:P.underlying u=some ut) (hni: ∀k,ut≠ .int k) (hi:P.info? e=some i) {ts:List TypeId} {base:Option Addr} {len n c:Nat} {x:Value} {vs:Array Value} {xs:List Value} {w:World}
  (cE:(Builtin.lenOf x).run P w=.ok n w) (cT:(Builtin.firstCells i.size n x).run P w=.ok vs w) (cI:len+n≤c) {w':World}
  (hst: ∀a,base=some a→(storeCells (a.add (len*i.size)) vs.toList).run P w=.ok () w') (hno:base=none→w'=w):
  (Builtin.append_ (t::u::ts).toArray type ((.slice base len c)::x::xs).toArray).run P w=.ok (.slice base (len+n) c) w':=by
 cases base with
 | none=>obtain rfl:=hno rfl;simp [Builtin.append_,run_underlying hu,run_underlying hut,Zu hi,cE,cT,cI]
 | some a=>have:=hst a rfl;simp [Builtin.append_,run_underlying hu,run_underlying hut,Zu hi,cE,cT,cI,this]
theorem Ut {t u e:TypeId} {ut:TypeDesc} {i:TypeInfo} {type:TypeId} (hu:P.underlying t=some (.slice e)) (hut:P.underlying u=some ut) (hni: ∀k,ut≠ .int k) (hi:P.info? e=some i) {z:Value} (hz:i.zero=some z) {ts:List TypeId} {base:Option Addr} {len n c:Nat} {x:Value} {vs old:Array Value} {xs:List Value} {w:World}
  (cE:(Builtin.lenOf x).run P w=.ok n w) (cT:(Builtin.firstCells i.size n x).run P w.drew=.ok vs w.drew) (hold:(Builtin.firstCells i.size len (.slice base len c)).run P w.drew=.ok old w.drew)
  (cI:c<len+n) (cZ:(len+n+1)*(i.bytes+1)≤1099511627776):
  ∃newCap,len+n≤newCap∧ ∃rest:Array Value,rest.size=(newCap - (len+n))*z.cells.size∧
  (Builtin.append_ (t::u::ts).toArray type ((.slice base len c)::x::xs).toArray).run P w=.ok (.slice (some ⟨w.heap.size,0,none⟩) (len+n) newCap) (w.drew.alloc (.cells (old++vs++rest) e)):=by
 have hmul:len+n+1≤(len+n+1)*(i.bytes+1):=Nat.le_mul_of_pos_right _ (by omega);have hr:=y9s cZ cI;have hr': ¬2 ^ 48<Builtin.nextslicecap (len+n) c*i.bytes:=hr;have hr'': ¬281474976710656<Builtin.nextslicecap (len+n) c*i.bytes:=hr;have h1: ¬len+n≤c:=by omega
 have h2: ¬(9223372036854775807<(len:Int)+(n:Int)):=by omega
 have hq:(Question.appendCap (len+n) c e).forced =false:=rfl;have hzero: ∀w,(zeroValue e).run P w=.ok z w:=fun w=>by simp [zeroValue,run_typeInfo w hi,hz]
 refine ⟨(Question.appendCap (len+n) c e).cut (w.tape w.drawn (Question.appendCap (len+n) c e)),by simp only [Question.cut];omega,Builtin.zeroCells z.cells ((Question.appendCap (len+n) c e).cut (w.tape w.drawn (Question.appendCap (len+n) c e)) - (len+n)),by simp [Builtin.zeroCells],?_⟩;have hty: ∀w,(typeInfo e).run P w=.ok i w:=fun w=>run_typeInfo w hi;simp [Builtin.append_,run_underlying hu,run_underlying hut,Zu hi,cE,h1,h2,hty,hr'',hq,cT,hold,hzero,newRow]
theorem Xm.append {a b:List AVal} {us vs:Array Value} (h:Xm ρ a us) (k:Xm ρ b vs):Xm ρ (a++b) (us++vs):=by
 refine ⟨by simp [h.1,k.1],fun i h1 h2=> ?_⟩;by_cases hi:i<a.length
 ·rw [Bk hi,Array.getElem_append_left (by rw [←h.1];exact hi)];exact h.2 i hi (by rw [←h.1];exact hi)
 ·rw [Bh (by omega),Array.getElem_append_right (by rw [←h.1];omega)];have e:=h.1;simp only [e];exact k.2 (i - us.size) (by grind) (by grind)
theorem Qk {st:St} {w:World} (h:Rel ρ st.mem st.next w) (floor:Nat) {cs:List AVal} {vs:Array Value} (hr:Xm ρ cs vs) (rest:Array Value) (ty el:TypeId) (v:AVal) (u:Value)
  (cR: ∀ρ',ρ' st.next=some ⟨w.heap.size,0,cs.length,vs.size+rest.size⟩→Zj ρ' v u) (hel:el=ty:=by rfl):
  z6v ρ floor st (z0h st cs ty) v w (Xq ρ st.next ⟨w.heap.size,0,cs.length,vs.size+rest.size⟩) u (w.drew.alloc (.cells (vs++rest) el)):=by
 have hd:Rel ρ st.mem st.next w.drew:=h.drawn _
 have:=Qj hd floor cs ty (vs++rest) el (by rw [hr.1];simp) (fun i h1 h2=>by
  rw [Array.getElem_append_left (by rw [←hr.1];exact h1)];exact hr.2 i h1 (by rw [←hr.1];exact h1)) v u (fun ρ' hρ'=>cR ρ' (by simp_all)) hel
 simp only [Array.size_append] at this;exact ⟨this.val,this.rel,this.ev.drawn⟩
theorem Uz {α:Type} {c:Bool} {x:Option α} {y:α} (h:(bif c then x else none)=some y):c=true∧x=some y:=by grind
structure x5d (P:Program) (ρ:Rho) (t u e:TypeId) (i:TypeInfo) (z:Value) (ux:Value) (n:Nat) (new:List AVal) (vs:Array Value) (w:World):Prop where
 rel:Xm ρ new vs
 hin: ∀{type:TypeId} {ts:List TypeId} {base:Option Addr} {len c:Nat} {xs:List Value},(n=0∨(n+1)*(i.bytes+1)≤1099511627776)→len+n≤c→ ∀{w':World},(∀a,base=some a→(storeCells (a.add (len*i.size)) vs.toList).run P w=.ok () w')→(base=none→w'=w)→
  (Builtin.append_ (t::u::ts).toArray type ((.slice base len c)::ux::xs).toArray).run P w=.ok (.slice base (len+n) c) w'
 hnew: ∀{type:TypeId} {ts:List TypeId} {base:Option Addr} {len c:Nat} {xs:List Value} {old:Array Value},(Builtin.firstCells i.size len (.slice base len c)).run P w.drew=.ok old w.drew→c<len+n→(len+n+1)*(i.bytes+1)≤1099511627776→
  ∃newCap,len+n≤newCap∧ ∃rest:Array Value,rest.size=(newCap - (len+n))*z.cells.size∧
   (Builtin.append_ (t::u::ts).toArray type ((.slice base len c)::ux::xs).toArray).run P w=.ok (.slice (some ⟨w.heap.size,0,none⟩) (len+n) newCap) (w.drew.alloc (.cells (old++vs++rest) e))
theorem z6x {n:Int} {bytes:Nat} (h0:0≤n) (h:n.toNat=0∨(n.toNat+1)*(bytes+1)≤1099511627776):IntKind.i64.wrap n=n∧n*(bytes:Int)≤281474976710656:=by
 grind [IntWalk.i64_in]
theorem Wa {mem:Mem} {next:Nat} {w:World} (h:Rel ρ mem next w) {t u e:TypeId} {ut:TypeDesc} {i:TypeInfo} {z:Value} {zero:List AVal} {x:AVal} {ux:Value} {n:Nat} {new:List AVal} (hu:P.underlying t=some (.slice e)) (hut:P.underlying u=some ut) (hi:P.info? e=some i) (hz:i.zero=some z)
  (hzr:Xm ρ zero z.cells) (hzl:zero.length=i.size) (hc:Xs mem i.size zero ut x=some (n,new)) (hx:Zj ρ x ux) (hnl:new.length=n*i.size): ∃vs,x5d P ρ t u e i z ux n new vs w:=by
 unfold Xs at hc;split at hc
 ·rename_i kt;split at hc
  ·rename_i k m;obtain ⟨h0,hc⟩:=Uz hc;have h0:=Ax h0;simp only [Ab,Aa] at hc;obtain ⟨rfl,rfl⟩:=hc;cases hx;have hzs:z.cells.size=i.size:=by rw [←hzr.1];exact hzl
   refine ⟨Builtin.zeroCells z.cells m.toNat,?_,?_,?_⟩
   ·exact z1o hzr m.toNat (m.toNat*z.cells.size) (by rw [hzr.1])
   ·intro type ts base len c xs hr cI w' hst hno;obtain ⟨hw,hb⟩:=z6x h0 hr;have hb': ¬281474976710656<m*(i.bytes:Int):=(by omega);have hlt: ¬m<0:=(by omega);have hzv: ∀w,(zeroValue e).run P w=.ok z w:=fun w=>by simp [zeroValue,run_typeInfo w hi,hz]
    have hty: ∀w,(typeInfo e).run P w=.ok i w:=fun w=>run_typeInfo w hi;by_cases hz0:m.toNat*i.size=0
    ·have hze:Builtin.zeroCells z.cells m.toNat= #[]:=(by simp [Builtin.zeroCells,hzs,hz0]);rw [hze] at hst;cases base with
     | none=>obtain rfl:=hno rfl;simp [Builtin.append_,run_underlying hu,run_underlying hut,Zu hi,asInt,asIntOf,hw,hlt,hty,hb',cI,hz0]
     | some a=>have:=hst a rfl;simp only [] at this;simp [Builtin.append_,run_underlying hu,run_underlying hut,Zu hi,asInt,asIntOf,hw,hlt,hty,hb',cI,hz0,this]
    ·cases base with
     | none=>obtain rfl:=hno rfl;simp [Builtin.append_,run_underlying hu,run_underlying hut,Zu hi,asInt,asIntOf,hw,hlt,hty,hb',cI,hz0,hzv]
     | some a=>have:=hst a rfl;simp [Builtin.append_,run_underlying hu,run_underlying hut,Zu hi,asInt,asIntOf,hw,hlt,hty,hb',cI,hz0,hzv,this]
   ·intro type ts base len c xs old hold cI cZ;have hr:m.toNat=0∨(m.toNat+1)*(i.bytes+1)≤1099511627776:=.inr (AJ (At _ (by omega)) cZ);obtain ⟨hw,hb⟩:=z6x h0 hr;have hb': ¬281474976710656<m*(i.bytes:Int):=(by omega);have hlt: ¬m<0:=(by omega);have hmul:len+m.toNat+1≤(len+m.toNat+1)*(i.bytes+1):=Nat.le_mul_of_pos_right _ (by omega);have hr0:=y9s cZ cI;have hr'': ¬281474976710656<Builtin.nextslicecap (len+m.toNat) c*i.bytes:=hr0;have h1: ¬len+m.toNat≤c:=(by omega);have h2: ¬(9223372036854775807<(len:Int)+(m.toNat:Int)):=(by omega);have h2': ¬(9223372036854775807<(len:Int)+max m 0):=(by omega);have hq:(Question.appendCap (len+m.toNat) c e).forced =false:=rfl;have hzv: ∀w,(zeroValue e).run P w=.ok z w:=fun w=>by simp [zeroValue,run_typeInfo w hi,hz]
    have hty: ∀w,(typeInfo e).run P w=.ok i w:=fun w=>run_typeInfo w hi;refine ⟨(Question.appendCap (len+m.toNat) c e).cut (w.tape w.drawn (Question.appendCap (len+m.toNat) c e)),by simp only [Question.cut];omega,Builtin.zeroCells z.cells ((Question.appendCap (len+m.toNat) c e).cut (w.tape w.drawn (Question.appendCap (len+m.toNat) c e)) - (len+m.toNat)),by simp [Builtin.zeroCells],?_⟩;by_cases hz0:m.toNat*i.size=0
    ·have hze:Builtin.zeroCells z.cells m.toNat= #[]:=(by simp [Builtin.zeroCells,hzs,hz0]);simp [Builtin.append_,run_underlying hu,run_underlying hut,Zu hi,asInt,asIntOf,hw,hlt,hb',h1,h2,h2',hty,hr'',hq,hold,hzv,newRow,hz0,hze]
    ·simp [Builtin.append_,run_underlying hu,run_underlying hut,Zu hi,asInt,asIntOf,hw,hlt,hb',h1,h2,h2',hty,hr'',hq,hold,hzv,newRow,hz0]
  ·cases hc
 ·rename_i hni';have hni: ∀k,ut≠ .int k:=fun k hk=>hni' k hk;obtain ⟨cE,cT⟩:=Xp (P:=P) h hc hx hnl;obtain ⟨vs,hvs,hfc⟩:=cT n (Aj _);rw [AT (by omega)] at hvs;have dT:(Builtin.firstCells i.size n ux).run P w=.ok vs w:=hfc w.drawn;have hfc1:(Builtin.firstCells i.size n ux).run P w.drew=.ok vs w.drew:=hfc (w.drawn+1);exact ⟨vs,hvs,fun _ cI _ hst hno=>Ji hu hut hni hi (cE w) dT cI hst hno,fun hold cI cZ=>Ut hu hut hni hi hz (cE w) hfc1 hold cI cZ⟩
theorem z9x {w:World} {x:Obj} {n:Nat} {k:Nat} {o:Obj} (h:w.heap[k]? =some o):(World.alloc {w with drawn:=n} x).heap[k]? =some o:=by
 have:k<w.heap.size:=(Ar.1 h).1;show (w.heap.push x)[k]? =some o
 grind
theorem y1s {w:World} {k:Nat} {cur:Array Value} {el:TypeId} {vs:List Value} {m:Nat} (hw:w.heap[k]? =some (.cells cur el (0,0))) (hm:m+vs.length≤cur.size):
  ∃cs1,(w.setRow k (cur.toList.take m++vs++cur.toList.drop (m+vs.length)).toArray).heap[k]? =some (.cells cs1 el (0,0))∧cs1.size=cur.size∧ ∀j,j<m→cs1[j]? =cur[j]? :=by
 have hc:cur.toList.length=cur.size:=Array.length_toList;refine ⟨_,setRow_heap w k cur _ el (0,0) hw,by simp;omega,fun j hj=> ?_⟩
 grind
def x8x (ρ:Rho) (m:Mem) (xs:List AVal) (w w':World):Prop:=
 (∀(b off len z b2 o2 n2:Nat) (c2:y8u) (r:List AVal) (blk:ABlk) (l:Loc),xs=.sl b off len (.un z)::.sl b2 o2 n2 c2::r→1≤n2→Ze m b=some blk→off+len*z=blk.cells.length→ρ b=some l→Yi ρ w' blk l)∧
 ∀r:List AVal,xs=.nils ::r→ ∀(k:Nat) (o:Obj),w.heap[k]? =some o→w'.heap[k]? =some o
theorem y2t {m:Mem} {sz:Nat} {zero:List AVal} {ut:TypeDesc} {b o n2:Nat} {c:y8u} {n:Nat} {new:List AVal} (h:Xs m sz zero ut (.sl b o n2 c)=some (n,new)):n=n2:=by
 have key:Zt m sz (.sl b o n2 c)=some (n,new)→n=n2:=fun h=>by
  simp only [Zt] at h;cases hm:Ze m b with
  | none=>grind
  | some blk=>rw [hm] at h;obtain ⟨_,h⟩:=z7r h;simp_all
 cases ut <;> first | exact key h | (cases h;done)
theorem Uy {st st' :St} {w:World} (h:Rel ρ st.mem st.next w) (floor:Nat) {ts:Array TypeId} {type:TypeId} {xs:List AVal} {us:Array Value} {v:AVal} (ha:Ua P floor st ts.toList xs=some (v,st')) (hx:Xj (Zj ρ) xs us.toList) (hty:tyOk P st.mem ts.toList xs=true):
  ∃ρ' u w',(Builtin.append_ ts type us).run P w=.ok u w'∧z6v ρ floor st st' v w ρ' u w'∧(st'.env=st.env∧st'.ob=st.ob)∧x8x ρ st.mem xs w w':=by
 obtain ⟨ts⟩:=ts;obtain ⟨us⟩:=us;simp only at ha hx;unfold Ua at ha;split at ha
 ·rename_i t tu tts s x txs;cases hx with
  | @cons _ su _ _ hs hx=>
   cases hx with
   | @cons _ ux _ uxs hx _=>
    split at ha
    ·rename_i e ut hu hut;split at ha
     ·rename_i i zero hi hz;split at ha
      ·rename_i n new hcs;obtain ⟨i2,z,hi2,hz2,hzr,_⟩:=Yf (ρ:=ρ) hz;obtain rfl:i=i2:=by grind
       cases hc:(Nat.beq zero.length i.size&&Nat.beq new.length (n*i.size)&&Nat.ble 1 i.size&&new.all z0b) with
       | false=>grind
       | true =>
        rw [hc,Ap] at ha;simp only [Ad] at hc;obtain ⟨⟨⟨hzl,hnl⟩,hsz⟩,hsc⟩:=hc;have hzl:=Af hzl;have hnl:=Af hnl;have hsz:=Ae hsz;have hzs:z.cells.size=i.size:=by rw [←hzr.1];exact hzl
        obtain ⟨vs,hF⟩:=Wa (P:=P) h hu hut hi hz2 hzr hzl hcs hx hnl;have hvs:=hF.rel;have hvsz:vs.size=n*i.size:=by rw [←hvs.1];exact hnl
        have cS:=Zj.cells_oneCell hvs hsc;split at ha
        ·-- nil
         cases hs;cases hn0:Nat.beq n 0 with
         | true=>rw [hn0,Ap] at ha;simp only [Ab,Aa] at ha;obtain ⟨rfl,rfl⟩:=ha;have hn0:=Af hn0;subst hn0;have cF:=hF.hin (type:=type) (ts:=tts) (base:=none) (len:=0) (c:=0) (xs:=uxs) (.inl rfl) (Aj _) (w':=w) (fun a e=>by cases e) (fun _=>rfl);exact ⟨ρ,_,w,cF,⟨.nils,h,Ev.refl _ _ _ _ _ h.dom⟩,⟨rfl,rfl⟩,(fun _ _ _ _ _ _ _ _ _ _ _ e=>by cases e),fun _ _ _ _ h=>h⟩
         | false=>
          rw [hn0,Ai] at ha;cases hrm:Nat.ble ((n+1)*(i.bytes+1)) Vt with
          | false=>grind
          | true=>
           rw [hrm,Ap] at ha;simp only [Ab,Aa] at ha;obtain ⟨rfl,rfl⟩:=ha;have hrm:=Ae hrm;have hnpos:0<n:=by
            grind
           obtain ⟨newCap,cK,rest,cQ,cF⟩:=hF.hnew (type:=type) (ts:=tts) (base:=none) (len:=0) (c:=0) (xs:=uxs) (old:= #[]) (by simp [Builtin.firstCells]) (by omega) (by simpa [Vt] using hrm);simp only [AA,Array.empty_append] at cF cK cQ;have hsum:vs.size+rest.size=newCap*i.size:=by rw [hvsz,cQ,hzs,←AB];grind
           refine ⟨_,_,_,cF,Qk h floor hvs rest e e _ _ (fun ρ' hρ'=> ?_),⟨rfl,rfl⟩,(fun _ _ _ _ _ _ _ _ _ _ _ e=>by cases e),fun _ _ k o h=>z9x h⟩;refine .sl _ 0 _ _ _ _ hρ' ?_ cK
           grind [Ub]
        ·-- a slice
         rename_i b off len cap;split at ha
         ·rename_i blk hm;split at ha
          ·rename_i old hold;cases hrm: !blk.isObj&&Nat.ble ((len+n+1)*(i.bytes+1)) Vt with
           | false=>grind
           | true =>
            rw [hrm,Ap] at ha;simp only [Ad,AM] at hrm;obtain ⟨hno,hrm⟩:=hrm;have hrm:=Ae hrm;have hrn:n=0∨(n+1)*(i.bytes+1)≤1099511627776:=.inr (AJ (At _ (by omega)) hrm);cases hs with
            | sl _ _ _ _ l c hρ cK hlc=>
             obtain ⟨hpold,holdl,holdle⟩:=Kv hold;have hblk:=(h.blk b l blk hρ hm).at hno;have hln:=hblk.n;have hmul:(len+n)*i.size=len*i.size+n*i.size:=AB _ _ _;have hoff:off+len*i.size≤blk.cells.length∨len*i.size=0:=(by omega);have hcos:Zt st.mem i.size (.sl b off len cap)=some (len,old):=(by simp [Zt,hm,hold,hno]);obtain ⟨_,hfo⟩:=Xp (P:=P) h hcos (.sl b off len cap l c hρ cK hlc) holdl;obtain ⟨ovs,hovs,hof⟩:=hfo len (Aj _);rw [AT (by omega)] at hovs;have hovz:ovs.size=len*i.size:=by rw [←hovs.1];exact holdl
             have hof1:(Builtin.firstCells i.size len (.slice (some ⟨l.blk,l.base+off,none⟩) len c)).run P w.drew=.ok ovs w.drew:=hof (w.drawn+1);have inplace: ∀v st',len+n≤c→floor≤b→off+(len+n)*i.size≤blk.cells.length→
               some (AVal.sl b off (len+n) cap,st.withMem (Ya st.mem b (some ⟨blk.cells.take (off+len*i.size)++new++blk.cells.drop (off+(len+n)*i.size),blk.ty,none⟩)))=some (v,st')→(∀z,cap=.un z→z=i.size)→
               ∃ρ' u w',(Builtin.append_ (t::tu::tts).toArray type ((.slice (some ⟨l.blk,l.base+off,none⟩) len c)::ux::uxs).toArray).run P w=.ok u w'∧z6v ρ floor st st' v w ρ' u w'∧(st'.env=st.env∧st'.ob=st.ob)∧x8x ρ st.mem (.sl b off len cap::x::txs) w w':=by
              intro v st' cI hfl cM he hzc;simp only [Ab,Aa] at he;obtain ⟨rfl,rfl⟩:=he;obtain ⟨cur,el,hw,hcsz,cD⟩:=h.write hρ hm (off:=off+len*i.size) (cs:=new) (vs:=vs.toList) hno (by grind) (by omega) (fun j h1 h2=>by simpa using hvs.2 j h1 (by grind));have hst:=run_storeCells_at P l.blk (l.base+off+len*i.size) el vs.toList 0 cur w hw (by grind) cS;rw [Bc] at hst;have cF:=hF.hin (type:=type) (ts:=tts) (base:=some ⟨l.blk,l.base+off,none⟩) (len:=len) (c:=c) (xs:=uxs) hrn cI (w':=w.setRow l.blk (cur.toList.take (l.base+off+len*i.size)++vs.toList++cur.toList.drop (l.base+off+len*i.size+vs.toList.length)).toArray)
               (fun a e=>by cases e;rw [Yj];exact hst) (fun e=>by cases e)
              refine ⟨ρ,_,_,cF,⟨.sl _ _ _ _ l c hρ cK (by omega),?_,Ev.ofWrite h hρ hfl _ _⟩,⟨rfl,rfl⟩,(fun b' off' len' z b2 o2 n2 c2 r blk' l' e hn hm' hend hl'=> ?keep),fun _ e=>by cases e⟩
              case keep=>exfalso;cases e;obtain rfl:=hzc _ rfl;rw [hm] at hm';obtain rfl:=Ac hm';obtain rfl:=y2t hcs;have:1*i.size≤n*i.size:=At _ hn;omega
              have e1:off+len*i.size+new.length=off+(len+n)*i.size:=(by omega);rw [e1] at cD
              simpa only [St.withMem,AI] using cD
             have anew: ∀v st' (st1:St),c<len+n→Rel ρ st1.mem st1.next w→Ev ρ ρ floor st.mem st.next st1.mem st1.next w w→st1.env=st.env→st1.ob=st.ob→
               some (AVal.sl st1.next 0 (len+n) (.un i.size),z0h st1 (old++new) e)=some (v,st')→
               ∃ρ' u w',(Builtin.append_ (t::tu::tts).toArray type ((.slice (some ⟨l.blk,l.base+off,none⟩) len c)::ux::uxs).toArray).run P w=.ok u w'∧z6v ρ floor st st' v w ρ' u w'∧(st'.env=st.env∧st'.ob=st.ob)∧x8x ρ st.mem (.sl b off len cap::x::txs) w w':=by
              intro v st' st1 cI dA hev1 cH hob he;simp only [Ab,Aa] at he;obtain ⟨rfl,rfl⟩:=he;obtain ⟨newCap,dU,rest,cQ,cF⟩:=hF.hnew (type:=type) (ts:=tts) (base:=some ⟨l.blk,l.base+off,none⟩) (len:=len) (c:=c) (xs:=uxs) hof1 cI (by simpa [Vt] using hrm);have hov:=hovs.append hvs;have hsum:(ovs++vs).size +rest.size=newCap*i.size:=by rw [Array.size_append,hovz,hvsz,cQ,hzs,←AB,←AB];grind
              have hp:=Qk dA floor hov rest e e (.sl st1.next 0 (len+n) (.un i.size)) (.slice (some ⟨w.heap.size,0,none⟩) (len+n) newCap) (fun ρ' hρ'=>by
               refine .sl _ 0 _ _ _ _ hρ' ?_ dU
               grind [Ub])
              refine ⟨_,_,_,cF,⟨hp.val,hp.rel,hev1.trans hp.ev⟩,⟨?_,?_⟩,(fun b' off' len' z b2 o2 n2 c2 r blk' l' e hn hm' hend hl'=> ?keep),fun _ e=>by cases e⟩
              case keep=>have hq:=h.blk b' l' blk' hl' hm';refine hq.world (Rho.le_refl ρ) ?_;obtain ⟨_,g1⟩:=hq.some;rw [g1];exact z9x g1
              all_goals simp_all [z0h]
             split at ha
             ·-- the capacity is known
              rename_i k;simp only [Ub] at cK;subst cK;cases hk:Nat.ble (len+n) c with
              | true=>
               rw [hk,Ap] at ha;have hk:=Ae hk;cases hf:(Nat.ble floor b&&Nat.ble (off+(len+n)*i.size) blk.cells.length) with
               | false=>grind
               | true=>rw [hf,Ap] at ha;simp_all
              | false=>
               rw [hk,Ai] at ha;have hk: ¬len+n≤c:=fun e=>by rw [AD e] at hk;cases hk
               exact anew _ _ st (by omega) h (Ev.refl _ _ _ _ _ h.dom) rfl rfl ha
             ·-- it is not
              rename_i zz;simp only [Ub] at cK;cases hf:(Nat.beq zz i.size&&Nat.ble floor b) with
              | false=>grind
              | true=>
               rw [hf,Ap] at ha;simp only [Ad] at hf;have hzz:=Af hf.1;have hfl:=Ae hf.2;subst hzz;cases hk:Nat.ble (off+(len+n)*i.size) blk.cells.length with
               | true=>
                rw [hk,Ap] at ha;have hk:=Ae hk;have cI:len+n≤c:=by rw [hln] at cK;have:(len+n)*i.size≤c*i.size:=(by omega);exact Nat.le_of_mul_le_mul_right this hsz
                grind
               | false=>
                rw [hk,Ai] at ha;cases hend:Nat.beq (off+len*i.size) blk.cells.length with
                | false=>grind
                | true=>
                 rw [hend,Ap] at ha;have hend:=Af hend;by_cases cI:len+n≤c
                 ·-- there is Vt: behind what is told
                  simp only [Ab,Aa] at ha;obtain ⟨rfl,rfl⟩:=ha;have hcm:(len+n)*i.size≤c*i.size:=At _ cI;obtain ⟨cur,el,hw,hcsz,cD⟩:=h.beyond hρ hm hno (off:=off) (new:=new) (vs:=vs.toList) e (by grind) (by omega) (by omega) (fun j h1 h2=>by simpa using hvs.2 j h1 (by grind)) (by simpa [tyOk,tyB,hu,hm] using hty);have hst:=run_storeCells_at P l.blk (l.base+off+len*i.size) el vs.toList 0 cur w hw (by grind) cS;rw [Bc] at hst;have cF:=hF.hin (type:=type) (ts:=tts) (base:=some ⟨l.blk,l.base+off,none⟩) (len:=len) (c:=c) (xs:=uxs) hrn cI (w':=w.setRow l.blk (cur.toList.take (l.base+off+len*i.size)++vs.toList++cur.toList.drop (l.base+off+len*i.size+vs.toList.length)).toArray)
                   (fun a e=>by cases e;rw [Yj];exact hst) (fun e=>by cases e)
                  have hod:old=blk.cells.drop off:=by rw [hpold];exact AT (by simp;omega)
                  refine ⟨_,_,_,cF,⟨.sl _ 0 _ _ ⟨l.blk,l.base+off,blk.cells.length - off+new.length,l.tot - off⟩ c (by simp [Xq]) ?_ (by omega),?_,Ev.ofBeyond h hρ hfl ⟨l.blk,l.base+off,blk.cells.length - off+new.length,l.tot - off⟩ rfl _ _⟩,⟨rfl,rfl⟩,(fun b' off' len' z b2 o2 n2 c2 r blk' l' e hn hm' _ hl'=> ?keep),fun _ e=>by cases e⟩
                  case keep=>
                   cases e;rw [hm] at hm';obtain rfl:=Ac hm';rw [hρ] at hl';obtain rfl:=Ac hl';obtain ⟨q0,q1,q2,q3,cs0,el0,q4,q5,q6⟩:=hblk;rw [hw] at q4;obtain ⟨rfl,rfl⟩:cur=cs0∧el=el0:=by
                    grind
                   obtain ⟨cs1,s1,s2,s3⟩:=y1s (vs:=vs.toList) hw (m:=l.base+off+len*i.size) (by grind);refine .plain ⟨by rw [s1];grind,q1,q2,q3,cs1,el,s1,by grind,fun k hk=> ?_⟩;obtain ⟨v,r1,r2⟩:=q6 k hk
                   grind
                  ·simp only [Ub];omega
                  ·rw [hod];have e2:l.base+off+len*i.size=l.base+blk.cells.length:=(by omega);rw [e2]
                   simpa only [z0h,St.withMem] using cD
                 ·exact anew _ _ (st.withMem (Ya st.mem b none)) (by omega) (h.kill b) (Ev.ofKill h floor hρ) rfl rfl ha
          ·cases ha
         ·cases ha
        ·cases ha
      ·cases ha
     ·cases ha
    ·cases ha
 ·cases ha
theorem y4q {get:Nat→List AVal} {off len n sz N:Nat} {new:List AVal} (hl: ∀i,i<N→(get i).length =sz) (hN:off+len=N) (hnew:new.length=n*sz):
  (∀i,i<len+n→(Zh get off len sz new i).length =sz)∧rows (len+n) (Zh get off len sz new)=((rows N get).drop (off*sz)).take (len*sz)++new:=by
 have h1: ∀i,i<len+n→(Zh get off len sz new i).length =sz:=fun i hi=>by
  unfold Zh;cases e:Nat.ble len i with
  | true=>
   have:=Ae e;simp only [Ap,List.length_take,List.length_drop,hnew];have:(i - len+1)*sz≤n*sz:=At sz (by omega)
   grind
  | false=>
   have: ¬len≤i:=fun h=>by rw [AD h] at e;cases e
   grind
 refine ⟨h1,?_⟩;have cE:=Zb (len+n) h1;have hlenN:=Zb N hl;have hd:((rows N get).drop (off*sz)).length =len*sz:=by rw [List.length_drop,hlenN,←hN,AB];omega
 rw [AT (by omega)];apply List.ext_getElem?;intro i;by_cases hi:i<(len+n)*sz
 ·have hsz:0<sz:=by
   grind
  have hj:i %sz<sz:=Bg _ hsz;have hq:i / sz<len+n:=AR (by grind);have e:i=i / sz*sz+i %sz:=by rw [Bb];exact (A4 i sz).symm
  generalize i / sz=q at*;generalize i %sz=j at*;subst e;rw [Xk (len+n) h1 q j hq hj];unfold Zh;cases e:Nat.ble len q with
  | true=>
   have hle:=Ae e;have:len*sz≤q*sz:=At sz hle;simp only [Ap];rw [List.getElem?_append_right (by omega),hd,List.getElem?_take,Av hj,List.getElem?_drop]
   congr 1
   rw [Nat.sub_mul];omega
  | false=>
   have hlt:q<len:=by
    rcases AS q len with h | h
    ·exact h
    ·rw [AD h] at e;cases e
   have:(q+1)*sz≤len*sz:=At sz hlt;rw [AB,Bs] at this;simp only [Ai];rw [List.getElem?_append_left (by omega),List.getElem?_drop,←Xk N hl (off+q) j (by omega) hj]
   grind
 grind
theorem y4r (n:Nat) (z:List AVal):rep n z=rows n fun _=>z:=by unfold rep rows;rw [List.flatMap_def,List.map_const',List.length_range]
theorem Ev.remem {ρ':Rho} {floor:Nat} {m m' m'':Mem} {n n':Nat} {w w':World} (h:Ev ρ ρ' floor m n m' n' w w') (hm: ∀b,b<n→ ∀cs ty,Ze m b=some ⟨cs,ty,none⟩→Ze m'' b=Ze m' b):Ev ρ ρ' floor m n m'' n' w w':=
 ⟨h.ext,h.new,h.nxt,fun b hb e cs ty hc=>by rw [hm b hb cs ty hc];exact h.unborn b hb e cs ty hc,h.frame,h.fresh,h.size,h.os,h.tape,h.output,h.still⟩
theorem Rel.remem {mem mem':Mem} {next:Nat} {w:World} (h:Rel ρ mem next w) (hm: ∀b,Ze mem' b=Ze mem b):Rel ρ mem' next w:=
 ⟨h.dom,fun b b' l l' e e' he hs hs'=>h.inj b b' l l' e e' he (by grind) (by grind),fun b l ab e hc=>h.blk b l ab e (by grind),h.old,fun b l e hs=>h.sep b l e (by grind),h.real,fun b hb=>by rw [hm];exact h.bd b hb,h.ldom⟩
theorem z2g {cx:Ctx} {st st':St} {w:World} (h:Rel ρ st.mem st.next w) {t:TypeId} {x y v:AVal} {ux uy:Value} (hb:Wf P cx st t x y=some (v,st')) (hob:st'.ob=true) (hx:Zj ρ x ux) (hy:Zj ρ y uy):
  ∃ρ' u w',(Instr.makeSlice t ux uy).run P w=.ok u w'∧z6v ρ cx.floor st st' v w ρ' u w':=by
 unfold Wf at hb;split at hb
 ·rename_i e kl l kc c hu;split at hb
  ·rename_i i zero hi hz;cases cX:(Nat.beq zero.length i.size&&Nat.ble 1 i.size) with
   | false=>grind
   | true=>
    rw [cX,Ap] at hb;simp only [Ad] at cX;obtain ⟨k1,k2⟩:=cX;have hzl:=Af k1;simp only [Ag,Aa] at hb;obtain ⟨st1,ho,rfl,rfl⟩:=hb;obtain ⟨o1,o2,o3,o4⟩:=z0r ho;obtain ⟨hc,_⟩:=o4 hob;have m2:st1.mem=Ya st.mem st.next (some ⟨rows c.toNat fun _=>zero,e,some ⟨i.size,c.toNat,.flat fun _=>zero⟩⟩):=o2
    have n2:st1.next=st.next+1:=o3
    have h0:Xo P st t (.int kl l) (.int kc c)=some (.sl st.next 0 l.toNat (.ex c.toNat),z0h st (rep c.toNat zero) e):=by simp_all [Xo]
    obtain ⟨ρ',uv,w',cF,hp,_,_⟩:=Vo h cx.floor h0 hx hy;refine ⟨ρ',uv,w',cF,?_,?_,?_⟩
    ·have hv:=hp.val;cases hv with
     | sl _ _ _ _ l' c' hρ' dU dS=>
      have hbk:=hp.rel.blk st.next l' ⟨rep c.toNat zero,e,none⟩ hρ' (Zq _ _ _)
      have hcn:c'=c.toNat:=dU;have q1:=hbk.n;have q2:=hbk.tot;simp only [Jq,hzl] at q1;have:=Zj.sla (ρ:=ρ') st.next i.size 0 l.toNat (.un i.size) l' c' hρ' (by grind [Ub]) dS
      grind
    ·have hr:Rel ρ' (Ya st.mem st.next (some ⟨rep c.toNat zero,e,none⟩)) (st.next+1) w':=hp.rel;rw [y4r] at hr;rw [m2,n2];obtain ⟨_,_,_,_,hzr,_⟩:=Yf (ρ:=ρ) hz;exact hr.setArr ⟨i.size,c.toNat,_⟩ (z0w (ρ:=ρ) (fun v hv=>.inl (Xm.mem hzr v (x2w hv).choose_spec.2)) _ _) rfl (Ae k2) fun _ _=>hzl
    ·rw [m2,n2];refine hp.ev.remem fun b' hb' cs ty hcs=> ?_;show _=Ze (Ya st.mem st.next _) b'
     grind [Zy]
  ·cases hb
 ·cases hb
theorem Qi {cx:Ctx} {st st':St} {w:World} (h:Rel ρ st.mem st.next w) {ts:Array TypeId} {type:TypeId} {xs:List AVal} {us:Array Value} {v:AVal} (ha:Kq P cx st ts.toList xs=some (v,st')) (hob:st'.ob=true) (hx:Xj (Zj ρ) xs us.toList) (hty:tyOk P st.mem ts.toList xs=true):
  ∃ρ' u w',(Builtin.append_ ts type us).run P w=.ok u w'∧z6v ρ cx.floor st st' v w ρ' u w'∧ ∀b sz off len z r blk l,xs=.sla b sz off len (.un z)::r→Ze st.mem b=some blk→ρ b=some l→Yi ρ w' blk l:=by
 obtain ⟨ul⟩:=us;simp only at hx;unfold Kq at ha;split at ha
 ·rename_i t u tr b sz off len z x xr hts;split at ha
  ·rename_i e ut hu hut;split at ha
   ·cases ha
   ·rename_i hni;split at ha
    ·rename_i i hi;split at ha
     ·rename_i n new zero blk hc hz hm;split at ha
      ·rename_i A hA;cases cX:(Nat.beq zero.length i.size&&Nat.beq new.length (n*i.size)&&Nat.ble 1 i.size&&new.all z0b&&Nat.beq sz i.size&&Nat.beq z sz&&Nat.ble cx.floor b&&Nat.ble 1 n) with
       | false=>grind
       | true=>
        rw [cX,Ap] at ha;have hchk0:=cX;simp only [Ad] at cX;obtain ⟨⟨⟨⟨⟨⟨⟨k1,k2⟩,k3⟩,k4⟩,k5⟩,k6⟩,k7⟩,k8⟩:=cX;obtain rfl:=Af k5;obtain rfl:=Af k6;have hnl:=Af k2;have hsz1:=Ae k3;have hfl:=Ae k7;have hn1:=Ae k8;simp only [Ag,Aa] at ha;obtain ⟨st1,ho,rfl,rfl⟩:=ha;obtain ⟨o1,o2,o3,o4⟩:=z0r ho;obtain ⟨hb,_⟩:=o4 hob;simp only [Ad,Aq] at hb;obtain ⟨hAs,hfull,cI⟩:=hb;have hAs:=Af hAs;have hbn:b<st.next:=by
         rcases AS b st.next with g | g
         ·exact g
         ·rw [h.bd b g] at hm;cases hm
        have m2:st1.mem=Ya (Ya st.mem b none) st.next (some ⟨rows (len+n) (Zh A.get off len i.size new),e,some ⟨i.size,len+n,Zh A.get off len i.size new⟩⟩):=o2
        have n2:st1.next=st.next+1:=o3
        cases hx with
        | cons ha0 hr=>
         cases ha0 with
         | sla _ _ _ _ _ l c hρ cK cE=>
          have hb0:=(h.blk b l blk hρ hm).rows hA;have hno:=hb0.noObj;obtain ⟨dF,dY,cO⟩:=hb0.arr A hA;rw [hAs] at cO;obtain ⟨q1,q2⟩:=y4q (new:=new) cO hfull hnl;have hlenr:=Zb A.n cO;have hmul:off*i.size+len*i.size=A.n*i.size:=(by grind);have hcut:cut blk.cells (off*i.size) (len*i.size)=some ((blk.cells.drop (off*i.size)).take (len*i.size)):=by
           unfold cut;simp only;rw [show Nat.beq ((blk.cells.drop (off*i.size)).take (len*i.size)).length (len*i.size)=true from by
            rw [Nat.beq_eq];simp [dF,hlenr];omega]
           rfl
          have hroom':Nat.ble ((len+n+1)*(i.bytes+1)) Vt=true:=AD cI;have hnot:Nat.ble (off*i.size+(len+n)*i.size) blk.cells.length=false:=by
           have:1*i.size≤n*i.size:=At _ hn1;cases g:Nat.ble (off*i.size+(len+n)*i.size) blk.cells.length with
           | false=>rfl
           | true=>
            have:=Ae g
            grind
          have hat:Nat.beq (off*i.size+len*i.size) blk.cells.length=true:=(by simp_all);have h0:Ua P cx.floor st ts.toList (.sl b (off*i.size) len (.un i.size)::x::xr)=some (.sl st.next 0 (len+n) (.un i.size),z0h (st.withMem (Ya st.mem b none)) (((blk.cells.drop (off*i.size)).take (len*i.size))++new) e):=by
           rw [hts];unfold Ua;simp only [hu,hut,hi,hz]
           grind [Xs]
          obtain ⟨ρ',uv,w',cF,hp,_,hkeep⟩:=Uy (type:=type) h cx.floor h0 (us:=⟨_⟩) (.cons (.sl _ _ _ _ l c hρ cK cE) hr) (by rw [hts] at hty ⊢;simpa [tyOk,tyB,hu,hm] using hty);refine ⟨ρ',uv,w',cF,⟨?_,?_,?_⟩,fun b' sz' off' len' z' r' blk' l' e hm' hl'=> ?_⟩
          rotate_left 3
          ·injection e with e1 _;injection e1 with f1 _ _ _ _;subst f1;rw [hm] at hm';obtain rfl:=Ac hm';have hxs: ∃b2 o2 c2,x=.sl b2 o2 n c2:=by
            unfold Zt at hc;split at hc
            ·grind
            ·split at hc
             ·obtain ⟨_,hc⟩:=z7r hc;simp_all
             ·cases hc
            ·cases hc
           obtain ⟨b2,o2,c2,rfl⟩:=hxs;exact hkeep.1 _ _ _ _ _ _ _ _ _ _ _ rfl hn1 hm (by grind) hl'
          ·have hv:=hp.val;cases hv with
           | sl _ _ _ _ l' c' hρ' dU dS=>
            have:=Zj.sla (ρ:=ρ') st.next i.size 0 (len+n) (.un i.size) l' c' hρ' (by grind) dS
            grind
          ·have hr:=hp.rel;rw [m2,n2];have hr:Rel ρ' (Ya (Ya st.mem b none) st.next (some ⟨((blk.cells.drop (off*i.size)).take (len*i.size))++new,e,none⟩)) (st.next+1) w':=hr;have dV:=z0w (ρ:=ρ) (cs:=((blk.cells.drop (off*i.size)).take (len*i.size))++new) (fun v hv=>(List.mem_append.1 hv).elim (fun k=>.inl (hb0.mem v (List.mem_of_mem_drop (List.mem_of_mem_take k)))) (fun k=>.inr (Aw.1 k4 v k))) e none;rw [dF,←q2] at hr dV;exact hr.setArr ⟨i.size,len+n,_⟩ dV rfl hsz1 q1
          ·rw [m2,n2];refine hp.ev.remem fun b' hb' cs ty hcs=> ?_;have hne:b'≠b:=fun e=>by grind
           show _=Ze (Ya (Ya st.mem b none) st.next _) b';rw [Zy _ _ (by omega),Zy _ _ hne,Zy _ _ (by omega),Zy _ _ hne]
         | slan=>
          have hq:=y4q (get:=fun _=>List.replicate i.size AVal.undef) (off:=0) (len:=0) (N:=0) (new:=new) (fun i hi=>absurd hi (Ay _)) rfl hnl;have hfe:Zh (fun _=>List.replicate i.size AVal.undef) 0 0 i.size new=Zh A.get off 0 i.size new:=rfl;rw [hfe] at hq;obtain ⟨q1,q2⟩:=hq;have hn0:Nat.beq n 0=false:=by cases n with | zero=>omega | succ n=>rfl
          have hroom':Nat.ble ((n+1)*(i.bytes+1)) Vt=true:=AD (by grind);have h0:Ua P cx.floor st ts.toList (.nils ::x::xr)=some (.sl st.next 0 n (.un i.size),z0h st new e):=by
           rw [hts];unfold Ua
           grind [Xs]
          obtain ⟨ρ',uv,w',cF,hp,_,hkeep⟩:=Uy (type:=type) h cx.floor h0 (us:=⟨_⟩) (.cons .nils hr) (by rw [hts];simp [tyOk,hu]);refine ⟨ρ',uv,w',cF,⟨?_,?_,?_⟩,fun b' sz' off' len' z' r' blk' l' e hm' hl'=> ?_⟩
          rotate_left 3
          ·have hq:=h.blk b' l' blk' hl' hm';refine hq.world (Rho.le_refl ρ) ?_;obtain ⟨_,g1⟩:=hq.some;rw [g1];exact hkeep.2 _ rfl _ _ g1
          ·have hv:=hp.val;rw [AA];cases hv with
           | sl _ _ _ _ l' c' hρ' dU dS=>
            have:=Zj.sla (ρ:=ρ') st.next i.size 0 n (.un i.size) l' c' hρ' (by grind) dS
            grind
          ·have hr:Rel ρ' (Ya st.mem st.next (some ⟨new,e,none⟩)) (st.next+1) w':=hp.rel;have hr:=hr.kill b;have hr:Rel ρ' (Ya (Ya st.mem b none) st.next (some ⟨new,e,none⟩)) (st.next+1) w':=hr.remem fun b'=>by
            simp only [Xv];by_cases e1:b'=st.next
            ·rw [Av e1,As (by omega),Av e1]
            simp_all
           rw [show new=rows (0+n) (Zh A.get off 0 i.size new) by rw [q2];simp] at hr;rw [m2,n2];have dV:=x3r k4 e none;rw [show new=rows (0+n) (Zh A.get off 0 i.size new) by rw [q2];simp] at dV;have:=hr.setArr ⟨i.size,0+n,Zh A.get off 0 i.size new⟩ dV rfl hsz1 q1;exact this
          ·rw [m2,n2];refine hp.ev.remem fun b' hb' cs ty hcs=> ?_;have hne:b'≠b:=fun e=>by grind
           show _=Ze (Ya st.mem st.next _) b';rw [Zy _ _ (by omega),Zy _ _ hne,Zy _ _ (by omega)]
      ·cases ha
     ·cases ha
    ·cases ha
  ·cases ha
 ·cases ha
theorem Rel.ghost {mem:Mem} {next:Nat} {w:World} (h:Rel ρ mem next w) (o:Option ABlk):Rel ρ (Ya mem next o) (next+1) w:=by
 have ne: ∀c l,ρ c=some l→c≠next:=fun c l e=>AO (h.dom c l e)
 refine ⟨fun c l e=>AQ (h.dom c l e),fun c c' m m' e e' he hs hs'=> ?_,fun c m ac e hc=> ?_,h.old,fun c m e hs=> ?_,h.real,fun c hc=> ?_,⟨fun j l e=>AQ (h.ldom.1 j l e),h.ldom.2⟩⟩
 ·rw [Zy _ _ (ne _ _ e)] at hs;rw [Zy _ _ (ne _ _ e')] at hs';exact h.inj c c' m m' e e' he hs hs'
 ·rw [Zy _ _ (ne _ _ e)] at hc;exact h.blk c m ac e hc
 ·rw [Zy _ _ (ne _ _ e)] at hs;exact h.sep c m e hs
 ·rw [Zy _ _ (by omega)];exact h.bd c (by omega)
theorem Ev.ghost {mem:Mem} {next:Nat} {w:World} (h:Rel ρ mem next w) (floor:Nat) (o:Option ABlk):Ev ρ ρ floor mem next (Ya mem next o) (next+1) w w where
 ext:=Rho.le_refl _
 new _ _:=rfl
 nxt:=Br _
 unborn k hk _ cs ty hm:=by grind [Zy]
 frame _ _ hk _:=hk
 fresh k m hk e:=by have:=h.dom k m e;omega
 size:=Aj _
 os:=rfl
 tape:=rfl
 output:=rfl
 still _ _:=rfl
theorem x1m {mem:Mem} {next:Nat} {w:World} (h:Rel ρ mem next w) {n sz:Nat} {g:Nat→List AVal} {ux:Value} (hx:Zj ρ (.dat n g) ux) (hg: ∀i,i<n→(g i).length =sz) (hsz:1≤sz):
  (∀w,(Builtin.lenOf ux).run P w=.ok n w)∧ ∃vs:Array Value,Xm ρ (rows n g) vs∧ ∀d,(Builtin.firstCells sz n ux).run P {w with drawn:=d}=.ok vs {w with drawn:=d}:=by
 cases hx with
 | datn=>exact ⟨fun w=>by simp [Builtin.lenOf], #[],⟨by simp [rows],fun i h1 h2=>by grind⟩,fun d=>by simp [Builtin.firstCells]⟩
 | datz=>exact ⟨fun w=>by simp [Builtin.lenOf], #[],⟨by simp [rows],fun i h1 h2=>by grind⟩,fun d=>by simp [Builtin.firstCells,loadCells,loadCellsFrom]⟩
 | dat _ _ blk base sz' cap val cK dZ hv hh=>
  refine ⟨fun w=>by simp [Builtin.lenOf],?_⟩;have hl:=Zb n hg;have hdiv: ∀k,k<n*sz→k / sz<n∧k %sz<sz∧k / sz*sz+k %sz=k:=fun k hk=>
   ⟨AR (by grind),Bg _ hsz,by rw [Bb];exact A4 k sz⟩
  have eB: ∀(d k:Nat),k<n*sz→({w with drawn:=d}:World).cell? ((⟨blk,base,none⟩:Addr).add k)=some (val (k / sz) (k %sz)):=by
   intro d k hk;obtain ⟨hq,hj,e4⟩:=hdiv k hk;have hs:sz'=sz:=by grind
   obtain ⟨cs,el,fz,e1,e2⟩:=hh (k / sz) (k %sz) hq (by omega);have e3:=h.old _ _ e1
   grind [Yj,World.cell?]
  refine ⟨_,⟨?_,?_⟩,fun d=>by simp only [Builtin.firstCells];exact run_loadCells _ _ _ (fun k=>val (k / sz) (k %sz)) (eB d)⟩
  ·simp [hl]
  ·intro k h1 h2;obtain ⟨hq,hj,e4⟩:=hdiv k (by grind);have hj':k %sz<(g (k / sz)).length :=by grind
   have hr:=Xk n hg (k / sz) (k %sz) hq hj;rw [e4,An h1,An hj'] at hr;rw [Ac hr]
   simpa using (hv (k / sz) (k %sz) hq hj').mono (z5s ρ)
theorem z0m {g:Nat→List AVal} {p:AVal→Bool} (n:Nat) (h: ∀i,i<n→(g i).all p=true):(rows n g).all p=true:=by
 grind [rows]
theorem Kc {get:Nat→List AVal} {sz N off len:Nat} (hl: ∀i,i<N→(get i).length =sz) (h:off+len≤N):rows len (fun k=>get (off+k))=((rows N get).drop (off*sz)).take (len*sz):=by
 have h1: ∀k,k<len→(get (off+k)).length =sz:=fun k hk=>hl _ (by omega);have hL:=Zb len h1;have hN:=Zb N hl;have hm:(off+len)*sz≤N*sz:=At _ h;rw [AB] at hm;apply List.ext_getElem?;intro i;by_cases hi:i<len*sz
 ·have hsz:0<sz:=by
   grind
  have hj:i %sz<sz:=Bg _ hsz;have hq:i / sz<len:=AR (by grind);have e:i / sz*sz+i %sz=i:=by rw [Bb];exact A4 i sz
  have a1:=Xk len h1 (i / sz) (i %sz) hq hj;have a2:=Xk N hl (off+i / sz) (i %sz) (by omega) hj
  grind
 grind
theorem y1p (s:List UInt8):rows s.length (Wq s)=s.map fun b=>AVal.int .u8 b.toNat:=by
 unfold rows Wq;rw [←List.map_eq_flatMap];refine List.ext_getElem (by simp) fun i h1 h2=> ?_;have hi:i<s.length:=by simpa using h2
 simp only [List.getElem_map,List.getElem_range];unfold bAt;rw [A1,An hi];rfl
theorem z7y {mem:Mem} {next:Nat} {w:World} (h:Rel ρ mem next w) {t u e:TypeId} {ut:TypeDesc} {i:TypeInfo} {z:Value} {zero:List AVal} {x:AVal} {ux:Value} {n:Nat} {g:Nat→List AVal} {o:Bool} (hu:P.underlying t=some (.slice e)) (hut:P.underlying u=some ut) (hi:P.info? e=some i) (hz:i.zero=some z)
  (hzr:Xm ρ zero z.cells) (hzl:zero.length=i.size) (hzs:zero.all z0b=true) (hsz:1≤i.size) (hc:z7z mem i.size zero ut x=some (n,g,o)) (ho:o=true) (hx:Zj ρ x ux):
  (∀k,k<n→(g k).length =i.size)∧ ∃vs,x5d P ρ t u e i z ux n (rows n g) vs w∧ ∀v∈vs.toList,v.oneCell'=true:=by
 subst ho;unfold z7z at hc;split at hc
 ·rename_i k m;split at hc
  ·rename_i kt;simp only [Ab,Aa] at hc;obtain ⟨rfl,rfl,h0⟩:=hc;have hcs:Xs mem i.size zero (.int kt) (.int k m)=some (m.toNat,rep m.toNat zero):=by
    grind [Xs]
   obtain ⟨vs,hF⟩:=Wa (P:=P) (u:=u) (t:=t) h hu hut hi hz hzr hzl hcs hx (by rw [Jq,hzl]);rw [y4r] at hF;exact ⟨fun _ _=>hzl,vs,hF,Zj.cells_oneCell hF.rel (z0m _ fun _ _=>hzs)⟩
  ·cases hc
 ·rename_i nn gg;split at hc
  ·cases hc
  ·rename_i hni;simp only [Ab,Aa] at hc;obtain ⟨rfl,rfl,h0⟩:=hc;have hp:= @Ax _ (Classical.propDecidable _) h0;obtain ⟨cE,vs,hvs,hfc⟩:=x1m (P:=P) h hx (fun i hi=>(hp i hi).1) hsz;have dT:(Builtin.firstCells i.size nn ux).run P w=.ok vs w:=hfc w.drawn;have hfc1:(Builtin.firstCells i.size nn ux).run P w.drew=.ok vs w.drew:=hfc (w.drawn+1);exact ⟨fun i hi=>(hp i hi).1,vs,⟨hvs,fun _ cI _ hst hno=>Ji hu hut (fun k e=>hni k e) hi (cE w) dT cI hst hno,fun hold cI cZ=>Ut hu hut (fun k e=>hni k e) hi hz (cE w) hfc1 hold cI cZ⟩,
    Zj.cells_oneCell hvs (z0m _ fun i hi=>(hp i hi).2)⟩
 ·split at hc
  ·cases hc
  ·rename_i hni;simp only [Ab,Aa] at hc;obtain ⟨rfl,rfl,_⟩:=hc;have hcs:Xs mem i.size zero ut .nils =some (0,[]):=by
    unfold Xs;split
    ·grind
    ·rfl
   obtain ⟨vs,hF⟩:=Wa (P:=P) (u:=u) (t:=t) h hu hut hi hz hzr hzl hcs hx (by simp);exact ⟨fun k hk=>absurd hk (Ay _),vs,hF,Zj.cells_oneCell hF.rel rfl⟩
 ·rename_i b zz off len0 cap;split at hc
  ·cases hc
  ·rename_i hni;split at hc
   ·rename_i cells ty A hm;simp only [Ab,Aa,Ad,Aq] at hc;obtain ⟨rfl,rfl,h1,h2,cM,h4⟩:=hc;have hp:= @Ax _ (Classical.propDecidable _) h4;have h1:=Af h1;have h2:=Af h2;subst h1;have nc: ∀v,Xs mem i.size zero ut v=Zt mem i.size v:=fun v=>by
     grind [Xs]
    cases hx with
    | sla _ _ _ _ _ l c hρ cK hlc=>
     obtain ⟨dF,dY,cO⟩:=(h.blk b l _ hρ hm).arr A rfl;rw [h2] at cO;simp only at dF;have hrp:=Kc cO cM;have hlr:=Zb A.n cO;have hm2:(off+len0)*i.size≤A.n*i.size:=At _ cM;rw [AB] at hm2;have cE:((cells.drop (off*i.size)).take (len0*i.size)).length =len0*i.size:=by
      grind
     have hcut:cut cells (off*i.size) (len0*i.size)=some ((cells.drop (off*i.size)).take (len0*i.size)):=by simp_all [cut]
     have hcs:Xs mem i.size zero ut (.sl b (off*i.size) len0 (.ex c))=some (len0,(cells.drop (off*i.size)).take (len0*i.size)):=by have hno:(⟨cells,ty,some A⟩:ABlk).isObj =false:=((h.blk b l _ hρ hm).rows rfl).noObj;rw [nc];simp [Zt,hm,hcut,hno]
     obtain ⟨vs,hF⟩:=Wa (P:=P) (u:=u) (t:=t) h hu hut hi hz hzr hzl hcs (.sl b (off*i.size) len0 (.ex c) l c hρ rfl hlc) cE;rw [dF,←hrp] at hF;exact ⟨fun k hk=>(hp k hk).1,vs,hF,Zj.cells_oneCell hF.rel (z0m _ fun k hk=>(hp k hk).2)⟩
    | slan=>
     have hcs:Xs mem i.size zero ut .nils =some (0,[]):=by rw [nc];rfl
     obtain ⟨vs,hF⟩:=Wa (P:=P) (u:=u) (t:=t) h hu hut hi hz hzr hzl hcs .nils (by simp);exact ⟨fun k hk=>absurd hk (Ay _),vs,hF,Zj.cells_oneCell hF.rel rfl⟩
   ·cases hc
 ·rename_i s;split at hc
  ·obtain ⟨hs1,hc⟩:=Uz hc;have hs1:=Af hs1;simp only [Ab,Aa] at hc;obtain ⟨rfl,rfl,_⟩:=hc;cases hx;have hvs:Xm ρ (rows s.length (Wq s)) (s.map fun b=>Value.int .u8 b.toNat).toArray :=by rw [y1p];refine ⟨by simp,fun j h1 h2=> ?_⟩;simp only [List.getElem_map,List.getElem_toArray];exact .int _ _
   have hl: ∀w,(Builtin.lenOf (.string ⟨s.toArray⟩)).run P w=.ok s.length w:=fun w=>by simp [Builtin.lenOf,←ByteArray.size_data]
   have hfc: ∀w,(Builtin.firstCells i.size s.length (.string ⟨s.toArray⟩)).run P w=.ok (s.map fun b=>Value.int .u8 b.toNat).toArray w:=fun w=>by simp [Builtin.firstCells,ByteArray.data_extract]
   exact ⟨fun k hk=>hs1.symm,_,⟨hvs,fun _ cI _ hst hno=>Ji hu hut (fun k e=>by cases e) hi (hl w) (hfc w) cI hst hno,fun hold cI cZ=>Ut hu hut (fun k e=>by cases e) hi hz (hl w) (hfc _) hold cI cZ⟩,
    Zj.cells_oneCell hvs (z0m _ fun i hi=>rfl)⟩
  ·cases hc
 ·cases hc
def x8y (P:Program) (ρ:Rho) (floor:Nat) (mem mem':Mem) (next:Nat) (sz:Nat) (e:TypeId) (N:Nat) (G:Nat→List AVal) (w:World) (r:World→Result Value):Prop:=
 ∃ρ' u w',r w=.ok u w'∧Zj ρ' (.sla next sz 0 N (.un sz)) u∧Rel ρ' (Ya mem' next (some ⟨rows N G,e,some ⟨sz,N,G⟩⟩)) (next+1) w'∧Ev ρ ρ' floor mem next (Ya mem' next (some ⟨rows N G,e,some ⟨sz,N,G⟩⟩)) (next+1) w w'
theorem z5a {mem:Mem} {next:Nat} {w:World} (h:Rel ρ mem next w) (floor:Nat) {t u e:TypeId} {type:TypeId} {ts:List TypeId} {xs:List Value} {i:TypeInfo} {z ux:Value} {n:Nat} {new:List AVal} {vs:Array Value} (hF:x5d P ρ t u e i z ux n new vs w)
  (cS: ∀v∈vs.toList,v.oneCell'=true) (hnl:new.length=n*i.size) (hzs:z.cells.size=i.size) (hsz:1≤i.size) {len c off b:Nat} {l:Loc} {blk:ABlk} (hrm:(len+n+1)*(i.bytes+1)≤Vt)
  (hρ:ρ b=some l) (hm:Ze mem b=some blk) (hno:blk.isObj=false) (hfl:floor≤b) (hoff:off+len*i.size≤blk.cells.length) (hlc:len≤c) (cK:(l.n≤off+c*i.size∧off+c*i.size≤l.tot)∨c≤len)
  {G:Nat→List AVal} (hG:rows (len+n) G=(blk.cells.drop off).take (len*i.size)++new) (hGl: ∀k,k<len+n→(G k).length =i.size) (htyb:blk.ty=e):
  x8y P ρ floor mem (Ya mem b none) next i.size e (len+n) G w fun w=>(Builtin.append_ (t::u::ts).toArray type ((.slice (some ⟨l.blk,l.base+off,none⟩) len c)::ux::xs).toArray).run P w:=by
 have hvs:=hF.rel;have hvsz:vs.size=n*i.size:=by rw [←hvs.1];exact hnl
 have hbk:=(h.blk b l blk hρ hm).at hno;have hln:=hbk.n;have htot:=hbk.tot;have hmul:(len+n)*i.size=len*i.size+n*i.size:=AB _ _ _;have hcut:cut blk.cells off (len*i.size)=some ((blk.cells.drop off).take (len*i.size)):=by unfold cut;simp only;rw [show Nat.beq ((blk.cells.drop off).take (len*i.size)).length (len*i.size)=true from by rw [Nat.beq_eq];simp;omega];rfl
 have hcos:Zt mem i.size (.sl b off len (.ex c))=some (len,(blk.cells.drop off).take (len*i.size)):=by simp [Zt,hm,hcut,hno]
 have holdl:((blk.cells.drop off).take (len*i.size)).length =len*i.size:=by simp;omega
 obtain ⟨_,hfo⟩:=Xp (P:=P) h hcos (.sl b off len (.ex c) l c hρ rfl hlc) holdl;obtain ⟨ovs,hovs,hof⟩:=hfo len (Aj _);rw [AT (by omega)] at hovs;have hovz:ovs.size=len*i.size:=by rw [←hovs.1];exact holdl
 have hof1:(Builtin.firstCells i.size len (.slice (some ⟨l.blk,l.base+off,none⟩) len c)).run P w.drew=.ok ovs w.drew:=hof (w.drawn+1);have hrn:n=0∨(n+1)*(i.bytes+1)≤1099511627776:=.inr (AJ (At _ (by omega)) hrm);have dV:(⟨rows (len+n) G,e,none⟩:ABlk).isObj =false:=by rw [hG];exact z0w (fun v hv=>.inl (Xm.mem (hovs.append hvs) v hv)) _ _
 by_cases cI:len+n≤c
 ·-- there is Vt
  have hcm:(len+n)*i.size≤c*i.size:=At _ cI;obtain ⟨T,t1,t2,t3⟩: ∃T,off+len*i.size - off+new.length≤T∧off+T≤l.tot∧c*i.size≤T:=by
   rcases cK with ⟨c1,c2⟩ | c1
   ·exact ⟨l.tot - off,by omega,by omega,by omega⟩
   ·have:n=0:=(by omega);subst this;have:c=len:=(by omega);subst this;exact ⟨c*i.size,by omega,by omega,by omega⟩
  obtain ⟨cur,el,hw,hcsz,cD⟩:=h.beyond2 hρ hm hno (off:=off) (m:=off+len*i.size) (T:=T) (new:=new) (vs:=vs.toList) e (by grind) (by omega) hoff t1 t2 (fun j h1 h2=>by simpa using hvs.2 j h1 (by grind)) htyb;have hst:=run_storeCells_at P l.blk (l.base+off+len*i.size) el vs.toList 0 cur w hw (by grind) cS;rw [Bc] at hst;have cF:=hF.hin (type:=type) (ts:=ts) (base:=some ⟨l.blk,l.base+off,none⟩) (len:=len) (c:=c) (xs:=xs) hrn cI (w':=w.setRow l.blk (cur.toList.take (l.base+off+len*i.size)++vs.toList++cur.toList.drop (l.base+off+len*i.size+vs.toList.length)).toArray)
   (fun a e=>by cases e;rw [Yj];exact hst) (fun e=>by cases e)
  have hdt:(blk.cells.take (off+len*i.size)).drop off=(blk.cells.drop off).take (len*i.size):=by
   grind
  rw [hdt,←hG,←AI] at cD;refine ⟨_,_,_,cF,?_,cD.setArr ⟨i.size,len+n,G⟩ dV rfl hsz hGl,?_⟩
  ·have:=Zj.sla (ρ:=Xq ρ next ⟨l.blk,l.base+off,off+len*i.size - off+new.length,T⟩) next i.size 0 (len+n) (.un i.size) ⟨l.blk,l.base+off,off+len*i.size - off+new.length,T⟩ c (by simp [Xq])
    (by grind [Ub]) (by omega)
   grind
  grind [Ev.ofBeyond]
 ·-- a new row
  let st:St:=⟨.leaf,mem,next,[],true⟩
  have dA:Rel ρ (st.withMem (Ya mem b none)).mem (st.withMem (Ya mem b none)).next w:=h.kill b
  obtain ⟨newCap,dU,rest,cQ,cF⟩:=hF.hnew (type:=type) (ts:=ts) (base:=some ⟨l.blk,l.base+off,none⟩) (len:=len) (c:=c) (xs:=xs) hof1 (by omega) (by simpa [Vt] using hrm);have hov:=hovs.append hvs;have hsum:(ovs++vs).size +rest.size=newCap*i.size:=by rw [Array.size_append,hovz,hvsz,cQ,hzs,←AB,←AB];grind
  have hp:=Qk dA floor hov rest e e (.sla next i.size 0 (len+n) (.un i.size)) (.slice (some ⟨w.heap.size,0,none⟩) (len+n) newCap) (fun ρ' hρ'=>by
   have:=Zj.sla (ρ:=ρ') next i.size 0 (len+n) (.un i.size) _ newCap hρ' (by
    grind [Ub]) dU
   grind)
  rw [←hG] at hp;refine ⟨Xq ρ next ⟨w.heap.size,0,(rows (len+n) G).length,(ovs++vs).size +rest.size⟩,_,_,cF,hp.val,?_,?_⟩
  ·exact Rel.setArr hp.rel ⟨i.size,len+n,G⟩ dV rfl hsz hGl
  ·refine ((Ev.ofKill h floor hρ).trans hp.ev).remem fun b' hb' cs ty hcs=> ?_;have hne: ¬b'=next:=AO hb'
   show Ze (Ya (Ya mem b none) next _) b'=Ze (Ya (Ya mem b none) next _) b';simp only [Xv,As hne]
theorem y0n {mem:Mem} {next:Nat} {w:World} (h:Rel ρ mem next w) (floor:Nat) {t u e:TypeId} {type:TypeId} {ts:List TypeId} {xs:List Value} {i:TypeInfo} {z ux:Value} {n:Nat} {new:List AVal} {vs:Array Value} (hF:x5d P ρ t u e i z ux n new vs w)
  (hnl:new.length=n*i.size) (hzs:z.cells.size=i.size) (hsz:1≤i.size) (hrm:(0+n+1)*(i.bytes+1)≤Vt) {G:Nat→List AVal} (hG:rows (0+n) G=new) (hGl: ∀k,k<0+n→(G k).length =i.size):
  x8y P ρ floor mem mem next i.size e (0+n) G w fun w=>(Builtin.append_ (t::u::ts).toArray type ((.slice none 0 0)::ux::xs).toArray).run P w:=by
 have hvs:=hF.rel;have hvsz:vs.size=n*i.size:=by rw [←hvs.1];exact hnl
 rcases Nat.eq_zero_or_pos n with hn0 | hnpos
 ·subst hn0;have cF:=hF.hin (type:=type) (ts:=ts) (base:=none) (len:=0) (c:=0) (xs:=xs) (.inl rfl) (Aj _) (w':=w) (fun a e=>by cases e) (fun _=>rfl);exact ⟨ρ,_,w,cF,.slan _ _ _ _,h.ghost _,Ev.ghost h floor _⟩
 ·obtain ⟨newCap,cK,rest,cQ,cF⟩:=hF.hnew (type:=type) (ts:=ts) (base:=none) (len:=0) (c:=0) (xs:=xs) (old:= #[]) (by simp [Builtin.firstCells]) (by omega) (by simpa [Vt] using hrm);have e0:(#[]:Array Value)++vs=vs:=by simp
  rw [e0] at cF;have hsum:vs.size+rest.size=newCap*i.size:=by rw [hvsz,cQ,hzs,←AB];grind
  let st:St:=⟨.leaf,mem,next,[],true⟩
  have dA:Rel ρ st.mem st.next w:=h
  have hp:=Qk dA floor hvs rest e e (.sla next i.size 0 (0+n) (.un i.size)) (.slice (some ⟨w.heap.size,0,none⟩) (0+n) newCap) (fun ρ' hρ'=>by
   have:=Zj.sla (ρ:=ρ') next i.size 0 (0+n) (.un i.size) _ newCap hρ' (by
    grind [Ub]) cK
   grind)
  rw [←hG] at hp;refine ⟨Xq ρ next ⟨w.heap.size,0,(rows (0+n) G).length,vs.size+rest.size⟩,_,_,cF,hp.val,Rel.setArr hp.rel ⟨i.size,0+n,G⟩ (by rw [hG];exact z0w (fun v hv=>.inl (Xm.mem hvs v hv)) _ _) rfl hsz hGl,?_⟩
  ·refine hp.ev.remem fun b' hb' cs ty hcs=> ?_;have hne: ¬b'=next:=AO hb'
   show Ze (Ya mem next _) b'=Ze (Ya mem next _) b';simp only [Xv,As hne]
theorem Wt {α β:Type} {f g:α→List β}: ∀{l:List α},(∀a,a∈l→f a=g a)→l.flatMap f=l.flatMap g
 | [],_=>rfl
 | a::l,h=>by rw [List.flatMap_cons,List.flatMap_cons,h a (by simp),Wt fun b hb=>h b (by simp [hb])]
theorem z3j {get g:Nat→List AVal} {len n sz:Nat} (hl: ∀i,i<len→(get i).length =sz) (hg: ∀i,i<n→(g i).length =sz):
  (∀i,i<len+n→(Yt get len g i).length =sz)∧rows (len+n) (Yt get len g)=rows len get++rows n g:=by
 have h1: ∀i,i<len+n→(Yt get len g i).length =sz:=fun i hi=>by
  unfold Yt;cases e:Nat.ble len i with
  | true=>
   have:=Ae e
   grind
  | false=>
   have: ¬len≤i:=fun h=>by rw [AD h] at e;cases e
   grind
 refine ⟨h1,?_⟩;unfold rows;rw [List.range_add,List.flatMap_append]
 congr 1
 ·refine Wt fun i hi=> ?_;have:=AN.1 hi;unfold Yt;rw [show Nat.ble len i=false from AP.2 fun e=>by have:=Ae e;omega];rfl
 ·rw [List.flatMap_map];refine Wt fun i hi=> ?_;unfold Yt;rw [show Nat.ble len (len+i)=true from AD (Nat.le_add_right _ _),Ap,Nat.add_sub_cancel_left]
theorem y2a {sz:Nat}: ∀(n:Nat) (l:List AVal),l.length=n*sz→rows n (fun k=>(l.drop (k*sz)).take sz)=l∧ ∀k,k<n→((l.drop (k*sz)).take sz).length =sz:=by
 intro n l hl;have h1: ∀k,k<n→((l.drop (k*sz)).take sz).length =sz:=fun k hk=>by
  have:(k+1)*sz≤n*sz:=At _ hk
  grind
 refine ⟨?_,h1⟩;have cE:=Zb n h1;apply List.ext_getElem?;intro i;by_cases hi:i<n*sz
 ·have hsz:0<sz:=by
   grind
  have hj:i %sz<sz:=Bg _ hsz;have hq:i / sz<n:=AR (by grind);have e:i / sz*sz+i %sz=i:=by rw [Bb];exact A4 i sz
  grind [Xk]
 grind
theorem z6u {cx:Ctx} {st st':St} {w:World} (h:Rel ρ st.mem st.next w) {ts:Array TypeId} {type:TypeId} {xs:List AVal} {us:Array Value} {v:AVal} (ha:Ux P cx st ts.toList xs=some (v,st')) (hob:st'.ob=true) (hx:Xj (Zj ρ) xs us.toList) (hty:tyOk P st.mem ts.toList xs=true):
  ∃ρ' u w',(Builtin.append_ ts type us).run P w=.ok u w'∧z6v ρ cx.floor st st' v w ρ' u w':=by
 obtain ⟨ts⟩:=ts;obtain ⟨us⟩:=us;simp only at ha hx;unfold Ux at ha;split at ha
 ·rename_i t tu tts s x txs;cases hx with
  | @cons _ su _ _ hs hx=>
   cases hx with
   | @cons _ ux _ uxs hx _=>
    split at ha
    ·rename_i e ut hu hut;split at ha
     ·rename_i i zero hi hz;split at ha
      ·rename_i b len get o1 n g o2 ht hc;obtain ⟨i2,z,hi2,hz2,hzr,_⟩:=Yf (ρ:=ρ) hz;obtain rfl:i=i2:=by grind
       obtain ⟨cX,ha⟩:=Uz ha;simp only [Ad] at cX;obtain ⟨⟨⟨hzl,hzsc⟩,hsz⟩,hfl⟩:=cX;have hzl:=Af hzl;have hsz:=Ae hsz;have hzs:z.cells.size=i.size:=by rw [←hzr.1];exact hzl
       simp only [Ag,Aa] at ha;obtain ⟨st1,ho,rfl,rfl⟩:=ha;obtain ⟨_,m2,n2,o4⟩:=z0r ho;obtain ⟨hb,_⟩:=o4 hob;simp only [Ad,Aq] at hb;obtain ⟨hb1,hb2,hrm⟩:=hb;have m2:st1.mem=Ya (y3d st.mem b) st.next (some ⟨rows (len+n) (Yt get len g),e,some ⟨i.size,len+n,Yt get len g⟩⟩):=m2
       have n2:st1.next=st.next+1:=n2
       obtain ⟨hgl,vs,hF,cS⟩:=z7y (P:=P) (u:=tu) (t:=t) h hu hut hi hz2 hzr hzl hzsc hsz hc hb2 hx.unN;have hnl:=Zb n hgl
       suffices x8y P ρ cx.floor st.mem (y3d st.mem b) st.next i.size e (len+n) (Yt get len g) w fun w=>(Builtin.append_ (t::tu::tts).toArray type (su::ux::uxs).toArray).run P w by obtain ⟨ρ',u,w',cF,hv,hr,hev⟩:=this;exact ⟨ρ',u,w',cF,hv,by grind,by grind⟩
       unfold Qx at ht;split at ht
       ·simp only [Ab,Aa] at ht;obtain ⟨rfl,rfl,rfl,_⟩:=ht;cases hs;obtain ⟨q1,q2⟩:=z3j (get:=fun _=>[]) (len:=0) (fun i hi=>absurd hi (Ay _)) hgl;exact y0n h cx.floor hF hnl hzs hsz hrm (by rw [q2];simp [rows]) q1
       ·rename_i b0 off len0 cap;split at ht
        ·rename_i blk hm;split at ht
         ·rename_i old hold;obtain ⟨dM,ht⟩:=Uz ht;simp only [Ad,AM] at dM;obtain ⟨hno,dM,hoff⟩:=dM;have hoff:=Ae hoff;simp only [Ab,Aa] at ht;obtain ⟨rfl,rfl,rfl,_⟩:=ht;obtain ⟨k1,k2,k3⟩:=Kv hold;obtain ⟨r1,r2⟩:=y2a len0 old k2;obtain ⟨q1,q2⟩:=z3j r2 hgl;cases hs with
          | sl _ _ _ _ l c hρ cK hlc=>
           have hbk:=h.blk b0 l blk hρ hm;have k4:off+len0*i.size≤blk.cells.length:=(by omega);refine z5a h cx.floor hF cS hnl hzs hsz hrm hρ hm hno (Ae hfl) k4 hlc ?_ (by grind) q1 (by simpa [tyOk,tyB,hu,hm] using hty);cases cap with
           | ex k=>exact .inr (by simp only [Ub] at cK;rw [cK];exact Ae dM)
           | un zz=>
            have:=Af dM
            grind [Ub]
         ·cases ht
        ·cases ht
       ·rename_i b0 zz off len0 cap;split at ht
        ·rename_i blk hm;split at ht
         ·rename_i A hA;obtain ⟨dM,ht⟩:=Uz ht;simp only [Ab,Aa] at ht;obtain ⟨rfl,rfl,rfl,rfl⟩:=ht;simp only [Ad,Aq] at hb1;obtain ⟨hz1,hz2',cM⟩:=hb1;obtain rfl:=Af hz1;have hAs:=Af hz2';cases hs with
          | sla _ _ _ _ _ l c hρ cK hlc=>
           obtain ⟨dF,dY,cO⟩:=(h.blk b0 l blk hρ hm).arr A hA;rw [hAs] at cO;have hlr:=Zb A.n cO;have hgl0: ∀k,k<len0→(A.get (off+k)).length =i.size:=fun k hk=>cO _ (by omega);obtain ⟨q1,q2⟩:=z3j hgl0 hgl;have hm2:(off+len0)*i.size≤A.n*i.size:=At _ cM;rw [AB] at hm2;refine z5a h cx.floor hF cS hnl hzs hsz hrm hρ hm ((h.blk b0 l blk hρ hm).rows hA).noObj (Ae hfl) (by grind) hlc ?_ (by rw [q2,Kc cO cM,dF]) q1 (by simpa [tyOk,tyB,hu,hm] using hty);cases cap with
           | ex k=>exact .inr (by simp only [Ub] at cK;rw [cK];exact Ae dM)
           | un zz=>
            have:=Af dM
            grind [Ub]
          | slan=>
           obtain ⟨q1,q2⟩:=z3j (get:=fun k=>A.get (off+k)) (len:=0) (fun i hi=>absurd hi (Ay _)) hgl;obtain ⟨ρ',u,w',cF,hv,hr,hev⟩:=y0n (P:=P) (type:=type) (ts:=tts) (xs:=uxs) h cx.floor hF hnl hzs hsz hrm (G:=Yt (fun k=>A.get (off+k)) 0 g) (by rw [q2];simp [rows]) q1;have hbn:b0<st.next:=by
            rcases AS b0 st.next with g | g
            ·exact g
            ·rw [h.bd b0 g] at hm;cases hm
           refine ⟨ρ',u,w',cF,hv,?_,?_⟩
           ·refine (hr.kill b0).remem fun b'=> ?_;simp only [y3d,Xv];by_cases e1:b'=st.next
            ·rw [Av e1,As (by omega),Av e1]
            simp_all
           ·refine hev.remem fun b' hb' cs ty hcs=> ?_;have hne:b'≠b0:=fun e=>by grind
            show Ze (Ya (Ya st.mem b0 none) st.next _) b'=Ze (Ya st.mem st.next _) b';rw [Zy _ _ (by omega),Zy _ _ hne,Zy _ _ (by omega)]
         ·cases ht
        ·cases ht
       ·cases ht
      ·cases ha
     ·cases ha
    ·cases ha
 ·cases ha
theorem y4f {st st':St} {w:World} (h:Rel ρ st.mem st.next w) (floor:Nat) {ts:Array TypeId} {type:TypeId} {xs:List AVal} {us:Array Value} {v:AVal} (ha:y4i P floor st ts.toList xs=some (v,st')) (hx:Xj (Zj ρ) xs us.toList):
  ∃ρ' u w',(Builtin.copy_ ts type us).run P w=.ok u w'∧z6v ρ floor st st' v w ρ' u w'∧st'.env=st.env∧st'.ob=st.ob:=by
 obtain ⟨ts⟩:=ts;obtain ⟨us⟩:=us;simp only at ha hx;unfold y4i at ha;split at ha
 ·rename_i t _ d x _;cases hx with
  | @cons _ ud _ _ hd hx=>
   cases hx with
   | @cons _ ux _ uxs hx _=>
    split at ha
    ·rename_i e hu;split at ha
     ·rename_i i hi;split at ha
      ·rename_i m src hcs;cases hc:(Nat.beq src.length (m*i.size)&&src.all z0b) with
       | false=>grind
       | true=>
        rw [hc,Ap] at ha;simp only [Ad] at hc;have hsl:=Af hc.1;have hsc:=hc.2;obtain ⟨cE,cT⟩:=Xp (P:=P) h hcs hx hsl;split at ha
        ·cases hd;simp only [Ab,Aa] at ha;obtain ⟨rfl,rfl⟩:=ha;obtain ⟨vs,hvs,hfc⟩:=cT 0 (AF _);have dT:(Builtin.firstCells i.size 0 ux).run P w=.ok vs w:=hfc w.drawn;refine ⟨ρ,_,w,?_,⟨.int _ _,h,Ev.refl _ _ _ _ _ h.dom⟩,rfl,rfl⟩;simp_all [Builtin.copy_,run_underlying,Zu,goInt]
        ·rename_i dn dg;obtain ⟨hdn,ha'⟩:=Uz ha;clear ha;obtain rfl:=Af hdn;simp only [Ab,Aa] at ha';obtain ⟨rfl,rfl⟩:=ha';obtain ⟨vs,hvs,hfc⟩:=cT 0 (AF _);have dT:(Builtin.firstCells i.size 0 ux).run P w=.ok vs w:=hfc w.drawn;have hv0:vs= #[]:=by
          have:vs.size=0:=by rw [←hvs.1];simp
          grind
         subst hv0;cases hd with
         | datn=>refine ⟨ρ,_,w,?_,⟨.int _ _,h,Ev.refl _ _ _ _ _ h.dom⟩,rfl,rfl⟩;simp_all [Builtin.copy_,run_underlying,Zu,goInt]
         | datz=>refine ⟨ρ,_,w,?_,⟨.int _ _,h,Ev.refl _ _ _ _ _ h.dom⟩,rfl,rfl⟩;simp_all [Builtin.copy_,run_underlying,Zu,goInt,storeCells]
         | dat=>refine ⟨ρ,_,w,?_,⟨.int _ _,h,Ev.refl _ _ _ _ _ h.dom⟩,rfl,rfl⟩;simp_all [Builtin.copy_,run_underlying,Zu,goInt,storeCells]
        ·rename_i b off len cap;split at ha
         ·rename_i blk hm;dsimp only at ha;cases hf:(!blk.isObj&&(Nat.ble floor b&&Nat.ble (off+(Nat.min m len)*i.size) blk.cells.length)) with
          | false=>grind
          | true=>
           rw [hf,Ap] at ha;simp only [Ad,AM] at hf;obtain ⟨hno,hf⟩:=hf;have hfl:=Ae hf.1;have cM:=Ae hf.2;simp only [Ab,Aa] at ha;obtain ⟨rfl,rfl⟩:=ha;cases hd with
           | sl _ _ _ _ l c hρ cK hlc=>
            have hmin:Nat.min m len≤m:=Nat.min_le_left _ _;have hmul:Nat.min m len*i.size≤m*i.size:=At _ hmin;obtain ⟨vs,hvs,hfc⟩:=cT (Nat.min m len) hmin;have dT:(Builtin.firstCells i.size (Nat.min m len) ux).run P w=.ok vs w:=hfc w.drawn;have cS:=Zj.cells_oneCell hvs (Aw.2 fun a ha=>Aw.1 hsc a (List.mem_of_mem_take ha));have hvl:(src.take (Nat.min m len*i.size)).length =Nat.min m len*i.size:=(by grind);obtain ⟨cur,el,hw,hcsz,cD⟩:=h.write hρ hm (off:=off) (cs:=src.take (Nat.min m len*i.size)) (vs:=vs.toList) hno (by simpa using hvs.1.symm) (by grind) (fun j h1 h2=>by simpa using hvs.2 j h1 (by grind));have hst:=run_storeCells_at P l.blk (l.base+off) el vs.toList 0 cur w hw (by grind) cS;rw [Bc] at hst;refine ⟨ρ,.int .i64 (Nat.min m len),w.setRow l.blk (cur.toList.take (l.base+off)++vs.toList++cur.toList.drop (l.base+off+vs.toList.length)).toArray,?_,⟨.int _ _,?_,Ev.ofWrite h hρ hfl _ _⟩,rfl,rfl⟩;all_goals simp_all [Builtin.copy_,run_underlying,Zu,goInt,St.withMem]
         ·cases ha
        ·cases ha
      ·cases ha
     ·cases ha
    ·cases ha
 ·cases ha
theorem x1l {mem:Mem} {next:Nat} {w:World} (h:Rel ρ mem next w) {n sz:Nat} {g:Nat→List AVal} {ux:Value} (hx:Zj ρ (.dat n g) ux) (hg: ∀i,i<n→(g i).length =sz) (hsz:1≤sz) {m:Nat} (hm:m≤n):
  (∀w,(Builtin.lenOf ux).run P w=.ok n w)∧ ∃vs:Array Value,Xm ρ (rows m g) vs∧ ∀d,(Builtin.firstCells sz m ux).run P {w with drawn:=d}=.ok vs {w with drawn:=d}:=by
 cases hx with
 | datn=>
  obtain rfl:m=0:=by omega
  exact ⟨fun w=>by simp [Builtin.lenOf], #[],⟨by simp [rows],fun i h1 h2=>by grind⟩,fun d=>by simp [Builtin.firstCells]⟩
 | datz=>
  obtain rfl:m=0:=by omega
  exact ⟨fun w=>by simp [Builtin.lenOf], #[],⟨by simp [rows],fun i h1 h2=>by grind⟩,fun d=>by simp [Builtin.firstCells,loadCells,loadCellsFrom]⟩
 | dat _ _ blk base sz' cap val cK dZ hv hh=>
  refine ⟨fun w=>by simp [Builtin.lenOf],?_⟩;have hg': ∀i,i<m→(g i).length =sz:=fun i hi=>hg i (by omega);have hl:=Zb m hg';have hdiv: ∀k,k<m*sz→k / sz<m∧k %sz<sz∧k / sz*sz+k %sz=k:=fun k hk=>
   ⟨AR (by grind),Bg _ hsz,by rw [Bb];exact A4 k sz⟩
  have eB: ∀(d k:Nat),k<m*sz→({w with drawn:=d}:World).cell? ((⟨blk,base,none⟩:Addr).add k)=some (val (k / sz) (k %sz)):=by
   intro d k hk;obtain ⟨hq,hj,e4⟩:=hdiv k hk;have hs:sz'=sz:=by grind
   obtain ⟨cs,el,fz,e1,e2⟩:=hh (k / sz) (k %sz) (by omega) (by omega);have e3:=h.old _ _ e1
   grind [Yj,World.cell?]
  refine ⟨_,⟨?_,?_⟩,fun d=>by simp only [Builtin.firstCells];exact run_loadCells _ _ _ (fun k=>val (k / sz) (k %sz)) (eB d)⟩
  ·simp [hl]
  ·intro k h1 h2;obtain ⟨hq,hj,e4⟩:=hdiv k (by grind);have hj':k %sz<(g (k / sz)).length :=by grind
   have hr:=Xk m hg' (k / sz) (k %sz) hq hj;rw [e4,An h1,An hj'] at hr;rw [Ac hr]
   simpa using (hv (k / sz) (k %sz) (by omega) hj').mono (z5s ρ)
theorem z9s {g:Nat→List AVal} {sz n m:Nat} (hg: ∀i,i<n→(g i).length =sz) (hm:m≤n):(rows n g).take (m*sz)=rows m g:=by
 have:=Kc (off:=0) (len:=m) hg (by omega)
 grind
theorem y9o {get g:Nat→List AVal} {sz N off n:Nat} (hl: ∀i,i<N→(get i).length =sz) (hg: ∀i,i<n→(g i).length =sz) (h:off+n≤N):
  (∀i,i<N→(Wd get off n g i).length =sz)∧rows N (Wd get off n g)=(rows N get).take (off*sz)++rows n g++(rows N get).drop (off*sz+n*sz):=by
 have h1: ∀i,i<N→(Wd get off n g i).length =sz:=fun i hi=>by
  unfold Wd;cases e:(Nat.ble off i&&Nat.ble (i+1) (off+n)) with
  | true=>
   simp only [Ad] at e;have e1:=Ae e.1;have e2:=Ae e.2
   grind
  | false=>exact hl _ hi
 refine ⟨h1,?_⟩;obtain ⟨r,rfl⟩: ∃r,N=off+(n+r):=⟨N - off - n,by omega⟩
 have e2:off*sz+n*sz=(off+n)*sz:=(AB _ _ _).symm;rw [z9s hl (by omega),e2];have e3:(rows (off+(n+r)) get).drop ((off+n)*sz)=rows r fun k=>get (off+n+k):=by
  rw [Kc (off:=off+n) (len:=r) hl (by omega)];rw [AT];have:=Zb _ hl
  grind
 rw [e3];unfold rows;rw [List.range_add,List.range_add,List.flatMap_append,List.map_append,List.flatMap_append,←AK]
 congr 1
 ·congr 1
  ·refine Wt fun i hi=> ?_;have:=AN.1 hi;unfold Wd;rw [show Nat.ble off i=false from AP.2 fun e=>by have:=Ae e;omega];rfl
  ·rw [List.flatMap_map];refine Wt fun i hi=> ?_;have:=AN.1 hi;unfold Wd;rw [AD (show off≤off+i by omega),AD (show off+i+1≤off+n by omega),Nat.add_sub_cancel_left];rfl
 ·rw [List.map_map,List.flatMap_map];refine Wt fun i hi=> ?_;unfold Wd;show (bif Nat.ble off (off+(n+i))&&Nat.ble (off+(n+i)+1) (off+n) then _ else _)=_;rw [show Nat.ble (off+(n+i)+1) (off+n)=false from AP.2 fun e=>by have:=Ae e;omega,Bool.and_false,Ai]
  grind
theorem z8v {mem:Mem} {next:Nat} {w:World} (h:Rel ρ mem next w) {sz:Nat} (hsz:1≤sz) {x:AVal} {ux:Value} {m:Nat} {g:Nat→List AVal} {o:Bool} (hc:y3u mem sz x=some (m,g,o)) (ho:o=true) (hx:Zj ρ x ux):
  (∀k,k<m→(g k).length =sz∧(g k).all z0b=true)∧ ∀n,n≤m→(∀w,(Builtin.lenOf ux).run P w=.ok m w)∧ ∃vs:Array Value,Xm ρ (rows n g) vs∧ ∀d,(Builtin.firstCells sz n ux).run P {w with drawn:=d}=.ok vs {w with drawn:=d}:=by
 subst ho;have part: ∀(b z off len c:Nat) (l:Loc) (blk:ABlk) (A:Arr),ρ b=some l→Ze mem b=some blk→blk.arr=some A→len≤c→(Nat.beq z sz&&(Nat.beq A.sz sz&&(decide (off+len≤A.n)&&pd (∀i,i<len→(A.get (off+i)).length =sz∧(A.get (off+i)).all z0b=true))))=true→
   (∀k,k<len→(A.get (off+k)).length =sz∧(A.get (off+k)).all z0b=true)∧ ∀n,n≤len→(∀w,(Builtin.lenOf (.slice (some ⟨l.blk,l.base+off*z,none⟩) len c)).run P w=.ok len w)∧ ∃vs:Array Value,Xm ρ (rows n fun k=>A.get (off+k)) vs∧ ∀d,(Builtin.firstCells sz n (.slice (some ⟨l.blk,l.base+off*z,none⟩) len c)).run P {w with drawn:=d}=.ok vs {w with drawn:=d}:=by
  intro b z off len c l blk A hρ hm hA cE ho;simp only [Ad,Aq] at ho;obtain ⟨k1,k2,k3,k4⟩:=ho;obtain rfl:=Af k1;have k2:=Af k2;have k4:= @Ax _ (Classical.propDecidable _) k4;refine ⟨k4,fun n hn=> ?_⟩;have hno:=((h.blk b l blk hρ hm).rows hA).noObj;obtain ⟨dF,dY,cO⟩:=(h.blk b l blk hρ hm).arr A hA;rw [k2] at cO;have hlr:=Zb A.n cO;have hm2:(off+len)*z≤A.n*z:=At _ k3;rw [AB] at hm2;have hpl:=Kc cO k3;have hL:(rows len fun k=>A.get (off+k)).length =len*z:=Zb len fun i hi=>(k4 i hi).1;have hcs:Zt mem z (.sl b (off*z) len (.ex c))=some (len,rows len fun k=>A.get (off+k)):=by simp_all [Zt,cut]
  obtain ⟨q1,q2⟩:=Xp (P:=P) h hcs (.sl b (off*z) len (.ex c) l c hρ rfl cE) hL
  grind [z9s]
 have none0: ∀(g:Nat→List AVal) (n:Nat) (p:Option Addr) (c:Nat),n≤0→(∀w,(Builtin.lenOf (.slice p 0 c)).run P w=.ok 0 w)∧ ∃vs:Array Value,Xm ρ (rows n g) vs∧ ∀d,(Builtin.firstCells sz n (.slice p 0 c)).run P {w with drawn:=d}=.ok vs {w with drawn:=d}:=by
  intro g n p c hn;obtain rfl:n=0:=by omega
  cases p with
  | none=>exact ⟨fun w=>by simp [Builtin.lenOf], #[],⟨by simp [rows],fun i h1 h2=>by grind⟩,fun d=>by simp [Builtin.firstCells]⟩
  | some a=>refine ⟨fun w=>by simp [Builtin.lenOf],_,⟨?_,fun i h1 h2=>by simp [rows] at h1⟩,fun d=>by simp only [Builtin.firstCells];exact run_loadCells _ _ _ (fun _=>undef) fun k hk=>by grind⟩;simp [rows]
 unfold y3u at hc;split at hc
 ·simp only [Ab,Aa] at hc;obtain ⟨rfl,rfl,_⟩:=hc;cases hx;exact ⟨fun k hk=>absurd hk (Ay _),fun n hn=>none0 _ n none 0 hn⟩
 ·rename_i n' g';simp only [Ab,Aa] at hc;obtain ⟨rfl,rfl,h0⟩:=hc;have hp:= @Ax _ (Classical.propDecidable _) h0;exact ⟨hp,fun n hn=>x1l (P:=P) h hx (fun i hi=>(hp i hi).1) hsz hn⟩
 ·split at hc
  ·rename_i blk hm;split at hc
   ·rename_i A hA;simp only [Ab,Aa] at hc;obtain ⟨rfl,rfl,h0⟩:=hc;cases hx with
    | sla _ _ _ _ _ l c hρ cK cE=>grind
    | slan=>exact ⟨fun k hk=>absurd hk (Ay _),fun n hn=>none0 _ n none 0 hn⟩
   ·cases hc
  ·cases hc
 ·split at hc
  ·rename_i blk hm;split at hc
   ·rename_i A hA;simp only [Ab,Aa] at hc;obtain ⟨rfl,rfl,h0⟩:=hc;cases hx with
    | slv _ _ _ _ l c hρ cE=>grind
    | slve=>exact ⟨fun k hk=>absurd hk (Ay _),fun n hn=>none0 _ n _ _ hn⟩
    | slvn=>exact ⟨fun k hk=>absurd hk (Ay _),fun n hn=>none0 _ n none 0 hn⟩
   ·cases hc
  ·cases hc
 ·cases hc
theorem Rel.reblk {mem:Mem} {next:Nat} {w:World} (h:Rel ρ mem next w) {b:Nat} {blk blk':ABlk} (hm:Ze mem b=some blk) (hb: ∀l,ρ b=some l→Yi ρ w blk l→Yi ρ w blk' l):Rel ρ (Ya mem b (some blk')) next w:=by
 have iff: ∀c,(Ze (Ya mem b (some blk')) c).isSome =true→(Ze mem c).isSome =true:=fun c hc=>by
  grind [Xv]
 have hlt:b<next:=by
  rcases AS b next with q | q
  ·exact q
  ·rw [h.bd b q] at hm;cases hm
 refine ⟨h.dom,fun c c' m m' e e' he hs hs'=>h.inj c c' m m' e e' he (iff c hs) (iff c' hs'),fun c m ac e hc=> ?_,h.old,fun c m e hs=>h.sep c m e (iff c hs),h.real,fun c hc=> ?_,h.ldom⟩
 ·grind [Xv,blk]
 ·rw [Zy _ _ (by omega)];exact h.bd c hc
theorem Ev.put {mem:Mem} {next:Nat} {w:World} (h:Rel ρ mem next w) (floor:Nat) {b:Nat} {blk:ABlk} {A:Arr} (hm:Ze mem b=some blk) (hA:blk.arr=some A) (o:Option ABlk):Ev ρ ρ floor mem next (Ya mem b o) next w w where
 ext:=Rho.le_refl _
 new _ _:=rfl
 nxt:=Aj _
 unborn k _ e cs ty hk:=by
  grind [Zy]
 frame _ _ hk _:=hk
 fresh k m hk e:=by have:=h.dom k m e;omega
 size:=Aj _
 os:=rfl
 tape:=rfl
 output:=rfl
 still _ _:=rfl
theorem z2s {cx:Ctx} {st st':St} {w:World} (h:Rel ρ st.mem st.next w) {ts:Array TypeId} {type:TypeId} {us:Array Value} {b sz off len:Nat} {d x:AVal} {xs:List AVal} {v:AVal} (ha:z2t P cx st ts.toList b sz off len x=some (v,st')) (hob:st'.ob=true) (hx:Xj (Zj ρ) (d::x::xs) us.toList)
  (hd: ∀u,Zj ρ d u→(∃l c,ρ b=some l∧len≤c∧u=.slice (some ⟨l.blk,l.base+off*sz,none⟩) len c)∨(len=0∧ ∃p c,u=.slice p 0 c)):
  ∃ρ' u w',(Builtin.copy_ ts type us).run P w=.ok u w'∧z6v ρ cx.floor st st' v w ρ' u w':=by
 obtain ⟨ts⟩:=ts;obtain ⟨us⟩:=us;simp only at ha hx;unfold z2t at ha;split at ha
 ·rename_i t _;cases hx with
  | @cons _ ud _ _ hd0 hx=>
   cases hx with
   | @cons _ ux _ uxs hx _=>
    split at ha
    ·rename_i e hu;split at ha
     ·rename_i i blk hi hm;split at ha
      ·rename_i A m g o hA hcs;obtain ⟨cX,ha⟩:=Uz ha;simp only [Ad] at cX;have hfl:=Ae cX.1;have hsz:=Ae cX.2;simp only [Ag,Aa] at ha;obtain ⟨st1,ho,rfl,rfl⟩:=ha;obtain ⟨_,m2,n2,o4⟩:=z0r ho;obtain ⟨hb,_⟩:=o4 hob;simp only [Ad,Aq] at hb;obtain ⟨k1,k2,k3,k4⟩:=hb;obtain rfl:=Af k1;have k2:=Af k2;have m2:st1.mem=Ya st.mem b (some ⟨rows A.n (Wd A.get off (Nat.min m len) g),blk.ty,some ⟨A.sz,A.n,Wd A.get off (Nat.min m len) g⟩⟩):=m2;have n2:st1.next=st.next:=n2
       obtain ⟨hg,cT⟩:=z8v (P:=P) h hsz hcs k4 hx;have hmin:Nat.min m len≤m:=Nat.min_le_left _ _;have hmin2:Nat.min m len≤len:=Nat.min_le_right _ _;obtain ⟨cE,vs,hvs,hfc⟩:=cT (Nat.min m len) hmin;have dT:(Builtin.firstCells i.size (Nat.min m len) ux).run P w=.ok vs w:=hfc w.drawn;have hgl: ∀k,k<Nat.min m len→(g k).length =i.size:=fun k hk=>(hg k (by omega)).1;have hrl:=Zb (Nat.min m len) hgl;have cS:=Zj.cells_oneCell hvs (z0m _ fun k hk=>(hg k (by omega)).2);have hbn:b<st.next:=by
        rcases AS b st.next with q | q
        ·exact q
        ·rw [h.bd b q] at hm;cases hm
       have nothing:Nat.min m len=0→Rel ρ st1.mem st1.next w∧Ev ρ ρ cx.floor st.mem st.next st1.mem st1.next w w:=fun e0=>by
        rw [m2,n2,e0];have same: ∀k,Wd A.get off 0 g k=A.get k:=fun k=>by
         unfold Wd;cases e:(Nat.ble off k&&Nat.ble (k+1) (off+0)) with
         | true=>simp only [Ad] at e;have e1:=Ae e.1;have e2:=Ae e.2;omega
         | false=>rfl
        have same:Wd A.get off 0 g=A.get:=funext same;rw [same];refine ⟨?_,Ev.put h cx.floor hm hA _⟩;refine h.reblk hm fun l hρ hbk=> ?_;have hbk:=hbk.rows hA;obtain ⟨dF,dY,cO⟩:=hbk.arr A hA;refine .plain ⟨by have:=hbk.typ;grind,by rw [hbk.n,dF],hbk.tot,fun B hB=> ?_,?_⟩
        ·obtain rfl:=Ac hB;exact ⟨rfl,dY,cO⟩
        ·have:=hbk.cells
         grind
       rcases hd ud hd0 with ⟨l,c,hρ,hlc,rfl⟩ | ⟨rfl,p,c,rfl⟩
       ·have hb0:=(h.blk b l blk hρ hm).rows hA;have hno:=hb0.noObj;obtain ⟨dF,dY,cO⟩:=hb0.arr A hA;rw [k2] at cO;have hlr:=Zb A.n cO;have hfitN:off+Nat.min m len≤A.n:=(by omega);obtain ⟨c1,c2⟩:=y9o cO hgl hfitN;have hm3:(off+Nat.min m len)*i.size≤A.n*i.size:=At _ hfitN;rw [AB] at hm3;obtain ⟨cur,el,hw,hcsz,cD⟩:=h.write hρ hm (off:=off*i.size) (cs:=rows (Nat.min m len) g) (vs:=vs.toList) hno (by simpa using hvs.1.symm) (by grind) (fun j h1 h2=>by simpa using hvs.2 j h1 (by grind));have dV:=hb0.splice (off:=off*i.size) (cs:=rows (Nat.min m len) g) (vs:=vs.toList) (by simpa using hvs.1.symm) (by grind) (fun j h1 h2=>by simpa using hvs.2 j h1 (by grind)) blk.ty none;have hst:=run_storeCells_at P l.blk (l.base+off*i.size) el vs.toList 0 cur w hw (by grind) cS;rw [Bc] at hst;rw [hrl,dF,←c2] at cD dV;refine ⟨ρ,.int .i64 (Nat.min m len:Nat),w.setRow l.blk (cur.toList.take (l.base+off*i.size)++vs.toList++cur.toList.drop (l.base+off*i.size+vs.toList.length)).toArray,?_,.int _ _,?_,?_⟩
        ·have hl2:=cE w;simp [Builtin.copy_,run_underlying hu,cE,Zu hi,dT,goInt,hst,-Array.length_toList,-List.append_assoc]
        ·rw [m2,n2];have:=cD.setArr ⟨A.sz,A.n,.flat (Wd A.get off (Nat.min m len) g)⟩ dV rfl dY (by rw [k2];exact c1);exact this
        grind [Ev.ofWrite]
       ·have e0:Nat.min m 0=0:=Nat.min_zero m;obtain ⟨n1,n3⟩:=nothing e0;refine ⟨ρ,.int .i64 (Nat.min m 0:Nat),w,?_,.int _ _,n1,n3⟩;rw [e0] at dT hvs;have hv0:vs= #[]:=by
         have:vs.size=0:=by rw [←hvs.1];simp [rows]
         grind
        subst hv0;cases p with
        | none=>simp [Builtin.copy_,run_underlying hu,cE,Zu hi,dT,goInt]
        | some a=>simp [Builtin.copy_,run_underlying hu,cE,Zu hi,dT,goInt,storeCells]
      ·cases ha
     ·cases ha
    ·cases ha
 ·cases ha
theorem y1b {st st':St} {w:World} (h:Rel ρ st.mem st.next w) (floor:Nat) {ts:Array TypeId} {type:TypeId} {xs:List AVal} {us:Array Value} {v:AVal} (ha:z6a P floor st ts.toList xs=some (v,st')) (hx:Xj (Zj ρ) xs us.toList):
  ∃ρ' u w',(Builtin.clear_ ts type us).run P w=.ok u w'∧z6v ρ floor st st' v w ρ' u w'∧st'.env=st.env∧st'.ob=st.ob:=by
 obtain ⟨ts⟩:=ts;obtain ⟨us⟩:=us;simp only at ha hx;unfold z6a at ha;have unit:Zj ρ (.tup []) (.tuple #[]):=.tup [] #[] rfl fun i h1 _=>by simp at h1
 split at ha
 ·rename_i t _ d _;cases hx with
  | @cons _ ud _ _ hd _=>
   split at ha
   ·rename_i e hu;split at ha
    ·rename_i i zero hi hz;obtain ⟨i2,z,hi2,_,hzr,hzv⟩:=Yf (ρ:=ρ) hz;split at ha
     ·cases hd;simp only [Ab,Aa] at ha;obtain ⟨rfl,rfl⟩:=ha;exact ⟨ρ,.tuple #[],w,by simp [Builtin.clear_,run_underlying hu],⟨unit,h,Ev.refl _ _ _ _ _ h.dom⟩,rfl,rfl⟩
     ·rename_i b off len cap;cases hd with
      | sl _ _ _ _ l c hρ cK hlc=>
       rcases (by cases hl0:Nat.beq len 0 with
         | true=>rw [hl0] at ha;exact .inl ⟨rfl,ha⟩
         | false=>rw [hl0] at ha;exact .inr ⟨rfl,ha⟩:(Nat.beq len 0=true∧_)∨(Nat.beq len 0=false∧_)) with ⟨hl0,ha⟩ | ⟨hl0,ha⟩
       ·have hl0:=Af hl0;subst hl0;simp only [Ap,Ab,Aa] at ha;obtain ⟨rfl,rfl⟩:=ha;exact ⟨ρ,.tuple #[],w,by simp [Builtin.clear_,run_underlying hu],⟨unit,h,Ev.refl _ _ _ _ _ h.dom⟩,rfl,rfl⟩
       ·obtain ⟨hc,ha⟩:=Uz ha;simp only [Ad] at hc;obtain ⟨⟨hzl,hzs⟩,hfl⟩:=hc;have hzl:=Af hzl;have hfl:=Ae hfl;split at ha
        ·rename_i blk hm;obtain ⟨cM,ha⟩:=Uz ha;simp only [Ad,AM] at cM;obtain ⟨hno,cM⟩:=cM;have cM:=Ae cM;simp only [Ab,Aa] at ha;obtain ⟨rfl,rfl⟩:=ha;have hrl:(rep len zero).length =len*i.size:=(by rw [Jq,hzl]);have dG:Xm ρ (rep len zero) (Builtin.zeroCells z.cells len):=z1o hzr len (len*z.cells.size) (by rw [hzr.1]);have cS: ∀v∈(Builtin.zeroCells z.cells len).toList,v.oneCell'=true:=Zj.cells_oneCell dG (by
          grind [rep])
         obtain ⟨cur,el,hw,hcsz,cD⟩:=h.write hρ hm (off:=off) (cs:=rep len zero) (vs:=(Builtin.zeroCells z.cells len).toList) hno (by simpa using dG.1.symm) (by grind) (fun j h1 h2=>by simpa using dG.2 j h1 (by grind));have hst:=run_storeCells_at P l.blk (l.base+off) el (Builtin.zeroCells z.cells len).toList 0 cur w hw (by grind) cS;rw [Bc] at hst;have hne:len≠0:=fun e=>by simp_all
         refine ⟨ρ,.tuple #[],w.setRow l.blk (cur.toList.take (l.base+off)++(Builtin.zeroCells z.cells len).toList ++cur.toList.drop (l.base+off+(Builtin.zeroCells z.cells len).toList.length)).toArray,?_,⟨unit,?_,Ev.ofWrite h hρ hfl _ _⟩,rfl,rfl⟩;all_goals simp_all [Builtin.clear_,run_underlying,St.withMem]
        ·cases ha
     ·cases ha
    ·cases ha
   ·cases ha
 ·cases ha
end
section
variable {P:Program} {ρ:Rho}
structure Yw (floor:Nat) (st st':St):Prop where
 nxt:st.next≤st'.next
 bd:(∀b,st.next≤b→Ze st.mem b=none)→ ∀b,st'.next≤b→Ze st'.mem b=none
 low:floor≤st.next→ ∀b,b<floor→Ze st'.mem b=Ze st.mem b
 ob:st'.ob=true→st.ob=true
theorem Yw.refl (floor:Nat) (st:St):Yw floor st st:=⟨Aj _,fun h=>h,fun _ _ _=>rfl,fun h=>h⟩
theorem Yw.trans {floor:Nat} {a b c:St} (h:Yw floor a b) (k:Yw floor b c):Yw floor a c:=
 ⟨AJ h.nxt k.nxt,fun x=>k.bd (h.bd x),fun x d hd=>(k.low (AJ x h.nxt) d hd).trans (h.low x d hd),fun x=>h.ob (k.ob x)⟩
theorem Yw.write {floor:Nat} (st:St) {b:Nat} {ab:ABlk} (o:Option ABlk) (hf:floor≤b) (hm:Ze st.mem b=some ab):Yw floor st (st.withMem (Ya st.mem b o)) where
 nxt:=Aj _
 bd h k hk:=by
  have hne:k≠b:=fun e=>by rw [e,] at hk;rw [h b hk] at hm;cases hm
  show Ze (Ya st.mem b o) k=none;rw [Zy _ _ hne];exact h k hk
 low _ k hk:=Zy _ _ (by omega)
 ob h:=h
theorem Yw.new {floor:Nat} (st:St) (cs:List AVal) (ty:TypeId):Yw floor st (z0h st cs ty) where
 nxt:=Br _
 bd h k hk:=by
  have hk':st.next+1≤k:=hk
  show Ze (Ya st.mem st.next _) k=none
  grind [Zy]
 low hf k hk:=Zy _ _ (by omega)
 ob h:=h
def y5w (R:Runner):Prop:= ∀cx todo st st',R cx todo st=some st'→Yw cx.floor st st'
theorem Yp {cx:Ctx} {st st':St} {b:Bool} (h:st.owe cx b=some st'):st'.env=st.env∧st'.mem=st.mem∧st'.next=st.next∧(st'.ob=true→b=true∧st.ob=true):=by
 obtain ⟨env,mem,next,orc,ob⟩:=st
 grind [St.owe]
theorem Kg {st st':St} {b e:Bool} (h:st.test b=(e,st')):st'.env=st.env∧st'.mem=st.mem∧st'.next=st.next∧(st'.ob=true→e=b∧st.ob=true):=by
 obtain ⟨env,mem,next,orc,ob⟩:=st;cases orc with
 | nil=>
  grind [St.test]
 | cons c r=>
  grind [St.test]
theorem Ys {cx:Ctx} {st st':St} {dst:Option Tmp} {v:AVal} (h:st.put cx dst v=some st'):st'.mem=st.mem∧st'.next=st.next∧st'.ob=st.ob∧
  ((dst=none∧st'.env=st.env)∨ ∃d,dst=some d∧d<cx.n∧st'.env=T.set .undef st.env d v):=by
 obtain ⟨env,mem,next,orc,ob⟩:=st;cases dst with
 | none=>
  grind [St.put]
 | some d=>
  simp only [St.put] at h;cases hb:Nat.ble (d+1) cx.n with
  | false=>grind
  | true=>rw [hb,Ap] at h;obtain rfl:=Ac h;exact ⟨rfl,rfl,rfl,.inr ⟨d,rfl,Ae hb,rfl⟩⟩
theorem Yw.same {floor:Nat} {st st':St} (hm:st'.mem=st.mem) (hn:st'.next=st.next) (ho:st'.ob=true→st.ob=true):Yw floor st st':=
 ⟨by grind,fun h b hb=>by grind,fun _ b _=>by rw [hm],ho⟩
theorem Zv {α:Type} {c:Bool} {x:Option α} {y:α} (h:(bif c then x else none)=some y):c=true∧x=some y:=by grind
theorem Xc {α:Type} {c:Bool} {x z:Option α} {y:α} (h:(bif c then x else z)=some y):(c=true∧x=some y)∨(c=false∧z=some y):=by grind
theorem y8i {floor:Nat} {st st':St} {t:TypeId} {x v:AVal} (h:z5t P floor st t x v=some st'):Yw floor st st'∧st'.env=st.env:=by
 unfold z5t at h;split at h
 ·obtain ⟨hc,h⟩:=Zv h;simp only [Ad] at hc;split at h
  ·rename_i blk hm;obtain ⟨_,h⟩:=Zv h;obtain rfl:=Ac h;exact ⟨Yw.write st _ (Ae hc.1.1.1) hm,rfl⟩
  ·cases h
 ·cases h
theorem y4c {cx:Ctx} {st st':St} {t:TypeId} {x v:AVal} (h:z0g P cx st t x v=some st'):Yw cx.floor st st'∧st'.env=st.env:=by
 unfold z0g at h;split at h
 ·obtain ⟨hc,h⟩:=Zv h;simp only [Ad] at hc;split at h
  ·rename_i blk hm;split at h
   ·split at h
    ·rename_i rw1 st1 dO;obtain ⟨s1,s2,s3,s4⟩:=Qn dO;obtain ⟨o1,o2,o3,o4⟩:=Yp h;have a1:Yw cx.floor st st1:=Yw.same s2 s3 fun x=>(s4 x).2;exact ⟨(a1.trans (Yw.write st1 _ (Ae hc.1.1.1.1) (by rw [s2];exact hm))).trans (Yw.same o2 o3 fun x=>(o4 x).2),o1.trans s1⟩
    ·cases h
   ·cases h
  ·cases h
 ·cases h
theorem z6c {st st':St} {t:TypeId} {len:Nat} {ps:List (Nat×AVal)} {v:AVal} {un:Bool} (floor:Nat) (h:Wh P un st t len ps=some (v,st')):Yw floor st st'∧st'.env=st.env:=by
 unfold Wh at h;split at h
 ·split at h
  ·obtain ⟨_,h⟩:=Zv h;split at h
   ·simp only [Ab,Aa] at h;obtain ⟨_,rfl⟩:=h;exact ⟨Yw.new st _ _,rfl⟩
   ·cases h
  ·cases h
 ·cases h
theorem Qh {st st':St} {t:TypeId} {x y v:AVal} (floor:Nat) (h:Xo P st t x y=some (v,st')):Yw floor st st'∧st'.env=st.env:=by
 unfold Xo at h;split at h
 ·split at h
  ·obtain ⟨_,h⟩:=Zv h;simp only [Ab,Aa] at h;obtain ⟨_,rfl⟩:=h;exact ⟨Yw.new st _ _,rfl⟩
  ·cases h
 ·cases h
theorem y4l {floor:Nat} {st st':St} {ts:List TypeId} {xs:List AVal} {v:AVal} (h:Ua P floor st ts xs=some (v,st')):Yw floor st st'∧st'.env=st.env:=by
 unfold Ua at h;split at h
 ·split at h
  ·split at h
   ·split at h
    ·obtain ⟨_,h⟩:=Zv h;split at h
     ·rcases Xc h with ⟨_,h⟩ | ⟨_,h⟩
      ·grind [Yw.refl]
      ·obtain ⟨_,h⟩:=Zv h;simp only [Ab,Aa] at h;obtain ⟨_,rfl⟩:=h;exact ⟨Yw.new st _ _,rfl⟩
     ·split at h
      ·rename_i blk hm;split at h
       ·obtain ⟨_,h⟩:=Zv h;split at h
        ·rcases Xc h with ⟨_,h⟩ | ⟨_,h⟩
         ·obtain ⟨hc,h⟩:=Zv h;simp only [Ad] at hc;simp only [Ab,Aa] at h;obtain ⟨_,rfl⟩:=h;exact ⟨Yw.write st _ (Ae hc.1) hm,rfl⟩
         ·simp only [Ab,Aa] at h;obtain ⟨_,rfl⟩:=h;exact ⟨Yw.new st _ _,rfl⟩
        ·obtain ⟨hc,h⟩:=Zv h;simp only [Ad] at hc;have hf:=Ae hc.2;rcases Xc h with ⟨_,h⟩ | ⟨_,h⟩
         ·simp only [Ab,Aa] at h;obtain ⟨_,rfl⟩:=h;exact ⟨Yw.write st _ hf hm,rfl⟩
         ·obtain ⟨_,h⟩:=Zv h;simp only [Ab,Aa] at h;obtain ⟨_,rfl⟩:=h;exact ⟨(Yw.write st none hf hm).trans (Yw.new _ _ _),rfl⟩
       ·cases h
      ·cases h
     ·cases h
    ·cases h
   ·cases h
  ·cases h
 ·cases h
theorem Yw.put {floor:Nat} (st:St) (cs:Option ABlk) {st':St} (hm:st'.mem=Ya st.mem st.next cs) (hn:st'.next=st.next+1) (ho:st'.ob=true→st.ob=true):Yw floor st st' where
 nxt:=by grind
 bd h k hk:=by
  grind [Zy]
 low hf k hk:=by grind [Zy]
 ob:=ho
theorem z5w {cx:Ctx} {st st':St} {t:TypeId} {x y v:AVal} (h:Wf P cx st t x y=some (v,st')):Yw cx.floor st st'∧st'.env=st.env:=by
 unfold Wf at h;split at h
 ·split at h
  ·obtain ⟨_,h⟩:=Zv h;simp only [Ag,Aa] at h;obtain ⟨_,h1,_,rfl⟩:=h;obtain ⟨o1,o2,o3,o4⟩:=Yp h1;exact ⟨Yw.put st _ o2 (o3.trans rfl) fun x=>(o4 x).2,o1⟩
  ·cases h
 ·cases h
theorem y1h {cx:Ctx} {st st':St} {ts:List TypeId} {xs:List AVal} {v:AVal} (h:Kq P cx st ts xs=some (v,st')):Yw cx.floor st st'∧st'.env=st.env:=by
 unfold Kq at h;split at h
 ·split at h
  ·split at h
   ·cases h
   ·split at h
    ·split at h
     ·rename_i hm;split at h
      ·obtain ⟨hc,h⟩:=Zv h;simp only [Ad] at hc;simp only [Ag,Aa] at h;obtain ⟨_,h1,_,rfl⟩:=h;obtain ⟨o1,o2,o3,o4⟩:=Yp h1;exact ⟨(Yw.write st none (Ae hc.1.2) hm).trans (Yw.put (st.withMem _) _ o2 (o3.trans rfl) fun x=>(o4 x).2),o1⟩
      ·cases h
     ·cases h
    ·cases h
  ·cases h
 ·cases h
theorem x4e {floor:Nat} {st:St} {sz len:Nat} {x:AVal} {b:Option Nat} {get:Nat→List AVal} {o:Bool} (ht:Qx st.mem sz x=some (b,len,get,o)) (hf:x1c floor b=true):Yw floor st (st.withMem (y3d st.mem b)):=by
 cases b with
 | none=>exact Yw.refl _ _
 | some b=>
  have hm: ∃ab,Ze st.mem b=some ab:=by
   unfold Qx at ht
   grind
  obtain ⟨ab,hm⟩:=hm;exact Yw.write st none (Ae hf) hm
theorem y1g {cx:Ctx} {st st':St} {ts:List TypeId} {xs:List AVal} {v:AVal} (h:Ux P cx st ts xs=some (v,st')):Yw cx.floor st st'∧st'.env=st.env:=by
 unfold Ux at h;split at h
 ·split at h
  ·split at h
   ·split at h
    ·rename_i ht _;obtain ⟨hc,h⟩:=Zv h;simp only [Ad] at hc;simp only [Ag,Aa] at h;obtain ⟨_,h1,_,rfl⟩:=h;obtain ⟨o1,o2,o3,o4⟩:=Yp h1;exact ⟨(x4e ht hc.2).trans (Yw.put (st.withMem _) _ o2 (o3.trans rfl) fun x=>(o4 x).2),o1⟩
    ·cases h
   ·cases h
  ·cases h
 ·cases h
theorem y1i {cx:Ctx} {st st':St} {ts:List TypeId} {xs:List AVal} {v:AVal} (h:Ur P cx st ts xs=some (v,st')):Yw cx.floor st st'∧st'.env=st.env:=by
 unfold Ur at h;rcases Xc h with ⟨_,h⟩ | ⟨_,h⟩
 ·cases h
 rcases Xc h with ⟨_,h⟩ | ⟨_,h⟩;all_goals grind [y1g,y1h,y4l]
theorem x1y {floor:Nat} {st st':St} {ts:List TypeId} {xs:List AVal} {v:AVal} (h:y4i P floor st ts xs=some (v,st')):Yw floor st st'∧st'.env=st.env:=by
 unfold y4i at h;split at h
 ·split at h
  ·split at h
   ·split at h
    ·obtain ⟨_,h⟩:=Zv h;split at h
     ·grind [Yw.refl]
     ·obtain ⟨_,h⟩:=Zv h
      grind [Yw.refl]
     ·dsimp only at h;split at h
      ·rename_i blk hm;obtain ⟨hc,h⟩:=Zv h;simp only [Ad] at hc;simp only [Ab,Aa] at h;obtain ⟨_,rfl⟩:=h;exact ⟨Yw.write st _ (Ae hc.2.1) hm,rfl⟩
      ·cases h
     ·cases h
    ·cases h
   ·cases h
  ·cases h
 ·cases h
theorem y8n {floor:Nat} {st st':St} {ts:List TypeId} {xs:List AVal} {v:AVal} (h:z6a P floor st ts xs=some (v,st')):Yw floor st st'∧st'.env=st.env:=by
 unfold z6a at h;split at h
 ·split at h
  ·split at h
   ·split at h
    ·grind [Yw.refl]
    ·rcases Xc h with ⟨_,h⟩ | ⟨_,h⟩
     ·grind [Yw.refl]
     ·obtain ⟨hc,h⟩:=Zv h;simp only [Ad] at hc;split at h
      ·rename_i blk hm;obtain ⟨_,h⟩:=Zv h;simp only [Ab,Aa] at h;obtain ⟨_,rfl⟩:=h;exact ⟨Yw.write st _ (Ae hc.2) hm,rfl⟩
      ·cases h
    ·cases h
   ·cases h
  ·cases h
 ·cases h
theorem y1c {S:Specs} {R:Runner} (hR:y5w R) {lift:Bool} {f:FuncId} {args:List AVal} {cx:Ctx} {st st':St} {v:AVal} (h:y8o P S R lift f args cx st=some (v,st')):
  (Yw cx.floor st st'∧(lift=true→ ∀b,b<st.next→grOf S f args≠some b→Ze st'.mem b=Ze st.mem b))∧st'.env=st.env:=by
 unfold y8o at h;split at h
 ·rcases Xc h with ⟨_,h⟩ | ⟨_,h⟩
  ·split at h
   ·obtain ⟨_,h⟩:=Zv h;simp only [Ag,Aa] at h
    grind [Yp,Yw.same]
   ·cases h
  ·split at h;split at h
   ·obtain ⟨_,h⟩:=Zv h;simp only [Ag,Aa] at h
    grind [Yp,Yw.same]
   ·cases h
 ·split at h
  ·rename_i v0 b blk o _;split at h
   ·rename_i ab hm;obtain ⟨hc,h⟩:=Zv h;simp only [Ad,AM] at hc;simp only [Ag,Aa] at h;obtain ⟨st1,h1,_,rfl⟩:=h;obtain ⟨e1,e2,e3,e4⟩:=Yp h1;exact ⟨⟨(Yw.write st (some blk) (Ae hc.2) hm).trans (Yw.same e2 e3 fun x=>(e4 x).2),fun hl=>by grind⟩,e1⟩
   ·cases h
  ·cases h
 ·rename_i ty0 F hF;split at h
  ·rename_i b sz n sz' r;split at h
   ·rename_i cells ty A hm;obtain ⟨hc,h⟩:=Zv h;simp only [Ad] at hc;split at h
    ·rename_i n' g o _;simp only [Ag,Aa] at h;obtain ⟨st1,h1,_,rfl⟩:=h;obtain ⟨env,mem,next,orc,ob⟩:=st;simp only at h1 hm ⊢;obtain ⟨e1,e2,e3,e4⟩:=Yp h1;simp only at e1 e2 e3 e4;have hle:=Ae hc.2.2.1;refine ⟨⟨⟨?_,fun hb k hk=> ?_,fun hf k hk=> ?_,fun x=>(e4 x).2⟩,fun _ k hk hn=> ?_⟩,e1⟩;all_goals grind [Zy,grOf]
    ·cases h
   ·cases h
  ·cases h
 ·split at h
  ·split at h
   ·split at h
    ·rename_i st2 hr;split at h
     ·simp only [Ab,Aa] at h;obtain ⟨_,rfl⟩:=h;have q:=hR _ _ _ _ hr;refine ⟨?_,rfl⟩;cases lift with
      | false=>exact ⟨⟨q.nxt,q.bd,q.low,q.ob⟩,fun x=>by cases x⟩
      | true=>refine ⟨⟨q.nxt,q.bd,fun hf b hb=>q.low (Aj _) b (AG hb hf),q.ob⟩,fun _ b hb _=>q.low (Aj _) b hb⟩
     ·cases h
    ·cases h
   ·cases h
  ·cases h
theorem y8k {cx:Ctx} {st st':St} {ts:List TypeId} {b sz off len:Nat} {x v:AVal} (h:z2t P cx st ts b sz off len x=some (v,st')):Yw cx.floor st st'∧st'.env=st.env:=by
 unfold z2t at h;split at h
 ·split at h
  ·split at h
   ·rename_i hm;split at h
    ·obtain ⟨hc,h⟩:=Zv h;simp only [Ad] at hc;simp only [Ag,Aa] at h;obtain ⟨_,h1,_,rfl⟩:=h;obtain ⟨o1,o2,o3,o4⟩:=Yp h1;exact ⟨(Yw.write st _ (Ae hc.1) hm).trans (Yw.same o2 o3 fun x=>(o4 x).2),o1⟩
    ·cases h
   ·cases h
  ·cases h
 ·cases h
theorem y8l {cx:Ctx} {st st':St} {ts:List TypeId} {xs:List AVal} {v:AVal} (h:z7s P cx st ts xs=some (v,st')):Yw cx.floor st st'∧st'.env=st.env:=by
 unfold z7s at h
 grind [y8k,x1y]
theorem z5z {S:Specs} {R:Runner} (hR:y5w R) {lift:Bool} {op:Op} {cx:Ctx} {st st':St} {v:AVal} (h:Xy P S R lift op cx st=some (v,st')):Yw cx.floor st st'∧st'.env=st.env:=by
 unfold Xy at h;split at h
 ·split at h
  ·rename_i hl;obtain ⟨l1,l2,l3,l4⟩:=Kk hl;simp only [Ag,Aa] at h
   grind [Yp,Yw.same]
  ·cases h
 ·simp only [Ag,Aa] at h;obtain ⟨_,_,_,rfl⟩:=h;exact ⟨Yw.new st _ _,rfl⟩
 ·obtain ⟨_,h⟩:=Zv h;simp only [Ab,Aa] at h;obtain ⟨_,rfl⟩:=h;exact ⟨Yw.new st _ _,rfl⟩
 ·exact z6c _ h
 ·split at h
  ·simp only [Ag,Aa] at h
   grind [y4c]
  ·simp only [Ag,Aa] at h
   grind [y8i]
 ·rcases Xc h with ⟨_,h⟩ | ⟨_,h⟩
  ·rcases Xc h with ⟨_,h⟩ | ⟨_,h⟩
   ·have q:=Qh (st:=st.dropO) cx.floor h;exact ⟨⟨q.1.nxt,q.1.bd,q.1.low,q.1.ob⟩,q.2⟩
   ·have q:=z5w (st:=st.dropO) h;exact ⟨⟨q.1.nxt,q.1.bd,q.1.low,q.1.ob⟩,q.2⟩
  ·exact Qh _ h
 all_goals grind [y1i,y8l,y8n,y1c]
def z7t (x:Nat) (st st':St):Prop:=Ze st'.mem x=Ze st.mem x
theorem Wo {x b:Nat} (st:St) (o:Option ABlk) (hn:b≠x):z7t x st (st.withMem (Ya st.mem b o)):=Zy _ _ fun e=>hn e.symm
theorem Qw {x:Nat} (st:St) (cs:List AVal) (ty:TypeId) (hx:x<st.next):z7t x st (z0h st cs ty):=Zy _ _ (AO hx)
theorem y4b {x:Nat} {floor:Nat} {st st':St} {t:TypeId} {a v:AVal} (h:z5t P floor st t a v=some st') (hn: ∀off,a≠ .ptr x off):z7t x st st':=by
 unfold z5t at h;split at h
 ·rename_i b off _ _;obtain ⟨_,h⟩:=Zv h;split at h
  ·obtain ⟨_,h⟩:=Zv h
   grind [Wo]
  ·cases h
 ·cases h
theorem y0w {x:Nat} {cx:Ctx} {st st':St} {t:TypeId} {a v:AVal} (h:z0g P cx st t a v=some st') (hn: ∀sz r fo,a≠ .epa x sz r fo):z7t x st st':=by
 unfold z0g at h;split at h
 ·rename_i b sz r fo _ _;obtain ⟨_,h⟩:=Zv h;split at h
  ·split at h
   ·split at h
    ·rename_i rw1 st1 dO;obtain ⟨_,s2,_,_⟩:=Qn dO;obtain ⟨_,o2,_,_⟩:=Yp h;unfold z7t;rw [o2,←s2];exact Wo st1 _ fun e=>hn sz r fo (by rw [e])
    ·cases h
   ·cases h
  ·cases h
 ·cases h
theorem z3e {x:Nat} {st st':St} {t:TypeId} {len:Nat} {ps:List (Nat×AVal)} {v:AVal} {un:Bool} (hx:x<st.next) (h:Wh P un st t len ps=some (v,st')):z7t x st st':=by
 unfold Wh at h;split at h
 ·split at h
  ·obtain ⟨_,h⟩:=Zv h
   grind [Qw]
  ·cases h
 ·cases h
theorem Ks {x:Nat} {st st':St} {t:TypeId} {l c v:AVal} (hx:x<st.next) (h:Xo P st t l c=some (v,st')):z7t x st st':=by
 unfold Xo at h;split at h
 ·split at h
  ·obtain ⟨_,h⟩:=Zv h
   grind [Qw]
  ·cases h
 ·cases h
theorem y1f {x floor:Nat} {st st':St} {ts:List TypeId} {xs:List AVal} {v:AVal} (hx:x<st.next) (h:Ua P floor st ts xs=some (v,st')) (hn: ∀off len cap r,xs≠ .sl x off len cap::r):z7t x st st':=by
 unfold Ua at h;split at h
 ·split at h
  ·split at h
   ·split at h
    ·obtain ⟨_,h⟩:=Zv h;split at h
     ·rcases Xc h with ⟨_,h⟩ | ⟨_,h⟩
      ·simp only [Ab,Aa] at h;obtain ⟨_,rfl⟩:=h;rfl
      ·obtain ⟨_,h⟩:=Zv h
       grind [Qw]
     ·have hb:=fun e=>hn _ _ _ _ (Au (fun b=>AVal.sl b _ _ _::_) e);split at h
      ·rename_i blk hm;split at h
       ·obtain ⟨_,h⟩:=Zv h;split at h
        ·rcases Xc h with ⟨_,h⟩ | ⟨_,h⟩
         ·obtain ⟨hc,h⟩:=Zv h
          grind [Wo]
         grind [Qw]
        ·obtain ⟨hc,h⟩:=Zv h;rcases Xc h with ⟨_,h⟩ | ⟨_,h⟩
         ·grind [Wo]
         ·obtain ⟨_,h⟩:=Zv h;simp only [Ab,Aa] at h;obtain ⟨_,rfl⟩:=h;exact (Qw (st.withMem (Ya st.mem _ none)) _ _ hx).trans (Wo st none hb)
       ·cases h
      ·cases h
     ·cases h
    ·cases h
   ·cases h
  ·cases h
 ·cases h
theorem z3b {x:Nat} {cx:Ctx} {st st':St} {t:TypeId} {l c v:AVal} (hx:x<st.next) (h:Wf P cx st t l c=some (v,st')):z7t x st st':=by
 unfold Wf at h;split at h
 ·split at h
  ·obtain ⟨_,h⟩:=Zv h;simp only [Ag,Aa] at h;obtain ⟨_,h1,_,rfl⟩:=h;obtain ⟨_,o2,_,_⟩:=Yp h1
   grind [z7t,Zy]
  ·cases h
 ·cases h
theorem z9g {x:Nat} {cx:Ctx} {st st':St} {ts:List TypeId} {xs:List AVal} {v:AVal} (hx:x<st.next) (h:Kq P cx st ts xs=some (v,st')) (hn: ∀sz off len cap r,xs≠ .sla x sz off len cap::r):z7t x st st':=by
 unfold Kq at h;split at h
 ·have hb:=fun e=>hn _ _ _ _ _ (Au (fun b=>AVal.sla b _ _ _ _::_) e);split at h
  ·split at h
   ·cases h
   ·split at h
    ·split at h
     ·split at h
      ·obtain ⟨hc,h⟩:=Zv h;simp only [Ag,Aa] at h;obtain ⟨_,h1,_,rfl⟩:=h;obtain ⟨_,o2,_,_⟩:=Yp h1
       grind [z7t,Zy]
      ·cases h
     ·cases h
    ·cases h
  ·cases h
 ·cases h
theorem z6f {m:Mem} {sz len b:Nat} {x:AVal} {get:Nat→List AVal} {o:Bool} (ht:Qx m sz x=some (some b,len,get,o)):(∃off len cap,x=.sl b off len cap)∨ ∃sz off len cap,x=.sla b sz off len cap:=by
 unfold Qx at ht
 grind
theorem z9f {x:Nat} {cx:Ctx} {st st':St} {ts:List TypeId} {xs:List AVal} {v:AVal} (hx:x<st.next) (h:Ux P cx st ts xs=some (v,st')) (hn: ∀off len cap r,xs≠ .sl x off len cap::r) (hn2: ∀sz off len cap r,xs≠ .sla x sz off len cap::r):z7t x st st':=by
 unfold Ux at h;split at h
 ·split at h
  ·split at h
   ·split at h
    ·rename_i b len get o1 n g o2 ht _;obtain ⟨hc,h⟩:=Zv h;simp only [Ag,Aa] at h;obtain ⟨_,h1,_,rfl⟩:=h;obtain ⟨_,o2,_,_⟩:=Yp h1;unfold z7t;rw [o2];show Ze (Ya (y3d st.mem b) st.next _) x=_;rw [Zy _ _ (AO hx)];cases b with
     | none=>rfl
     | some b=>
      refine Zy _ _ fun e=> ?_
      grind [z6f]
    ·cases h
   ·cases h
  ·cases h
 ·cases h
theorem z9h {x:Nat} {cx:Ctx} {st st':St} {ts:List TypeId} {xs:List AVal} {v:AVal} (hx:x<st.next) (h:Ur P cx st ts xs=some (v,st')) (hn: ∀off len cap r,xs≠ .sl x off len cap::r) (hn2: ∀sz off len cap r,xs≠ .sla x sz off len cap::r):z7t x st st':=by
 unfold Ur at h;rcases Xc h with ⟨_,h⟩ | ⟨_,h⟩
 ·cases h
 rcases Xc h with ⟨_,h⟩ | ⟨_,h⟩;all_goals grind [z9f,z9g,y1f]
theorem y8j {x floor:Nat} {st st':St} {ts:List TypeId} {xs:List AVal} {v:AVal} (h:y4i P floor st ts xs=some (v,st')) (hn: ∀off len cap r,xs≠ .sl x off len cap::r):z7t x st st':=by
 unfold y4i at h;split at h
 ·split at h
  ·split at h
   ·split at h
    ·obtain ⟨_,h⟩:=Zv h;split at h
     ·simp only [Ab,Aa] at h;obtain ⟨_,rfl⟩:=h;rfl
     ·obtain ⟨_,h⟩:=Zv h;simp only [Ab,Aa] at h;obtain ⟨_,rfl⟩:=h;rfl
     ·have hb:=fun e=>hn _ _ _ _ (Au (fun b=>AVal.sl b _ _ _::_) e);dsimp only at h;split at h
      ·obtain ⟨hc,h⟩:=Zv h
       grind [Wo]
      ·cases h
     ·cases h
    ·cases h
   ·cases h
  ·cases h
 ·cases h
theorem y4g {x:Nat} {cx:Ctx} {st st':St} {ts:List TypeId} {b sz off len:Nat} {y v:AVal} (h:z2t P cx st ts b sz off len y=some (v,st')) (hn:b≠x):z7t x st st':=by
 unfold z2t at h;split at h
 ·split at h
  ·split at h
   ·split at h
    ·obtain ⟨_,h⟩:=Zv h;simp only [Ag,Aa] at h;obtain ⟨_,h1,_,rfl⟩:=h;obtain ⟨_,o2,_,_⟩:=Yp h1;show Ze _ x=_;rw [o2];exact Wo st _ hn
    ·cases h
   ·cases h
  ·cases h
 ·cases h
theorem y4h {x:Nat} {cx:Ctx} {st st':St} {ts:List TypeId} {xs:List AVal} {v:AVal} (h:z7s P cx st ts xs=some (v,st')) (hn: ∀off len cap r,xs≠ .sl x off len cap::r) (hn2: ∀sz off len cap r,xs≠ .sla x sz off len cap::r) (hn3: ∀sz off len r,xs≠ .slv x sz off len::r):z7t x st st':=by
 unfold z7s at h
 grind [y4g,y8j]
theorem y4j {x floor:Nat} {st st':St} {ts:List TypeId} {xs:List AVal} {v:AVal} (h:z6a P floor st ts xs=some (v,st')) (hn: ∀off len cap r,xs≠ .sl x off len cap::r):z7t x st st':=by
 unfold z6a at h;split at h
 ·split at h
  ·split at h
   ·split at h
    ·simp only [Ab,Aa] at h;obtain ⟨_,rfl⟩:=h;rfl
    ·have hb:=fun e=>hn _ _ _ _ (Au (fun b=>AVal.sl b _ _ _::_) e);rcases Xc h with ⟨_,h⟩ | ⟨_,h⟩
     ·simp only [Ab,Aa] at h;obtain ⟨_,rfl⟩:=h;rfl
     ·obtain ⟨hc,h⟩:=Zv h;split at h
      ·obtain ⟨_,h⟩:=Zv h
       grind [Wo]
      ·cases h
    ·cases h
   ·cases h
  ·cases h
 ·cases h
theorem y1a {S:Specs} {R:Runner} {lift:Bool} {op:Op} {cx:Ctx} {st st':St} {v:AVal} {x:Nat} (hk:Yz op=.chain) (hx:x<st.next) (hn:z9k op st.eval≠some x) (h:Xy P S R lift op cx st=some (v,st')):z7t x st st':=by
 cases op with
 | store t a y=>
  simp only [Xy] at h;split at h
  ·rename_i b sz r fo hb;simp only [Ag,Aa] at h
   grind [y0w,z9k]
  ·simp only [Ag,Aa] at h
   grind [y4b,z9k]
 | box t y=>
  unfold Xy at h;simp only at h;obtain ⟨_,h⟩:=Zv h
  grind [Qw]
 | buildSlice t n ps=>exact z3e hx h
 | makeSlice t l c=>
  unfold Xy at h;simp only at h;rcases Xc h with ⟨_,h⟩ | ⟨_,h⟩
  ·rcases Xc h with ⟨_,h⟩ | ⟨_,h⟩
   ·exact (Ks (st:=st.dropO) hx h)
   ·exact (z3b (st:=st.dropO) hx h)
  ·exact Ks hx h
 | call c=>
  obtain ⟨callee,args,argTypes⟩:=c;cases callee with
  | builtin b=>
   cases b <;> first
    | (simp [Yz] at hk;done)
    | exact z9h hx h (fun off len cap r e=>hn (by simp only [z9k,e])) (fun sz off len cap r e=>hn (by simp only [z9k,e]))
    | exact y4h h (fun off len cap r e=>hn (by simp only [z9k,e])) (fun sz off len cap r e=>hn (by simp only [z9k,e])) (fun sz off len r e=>hn (by simp only [z9k,e]))
    | exact y4j h fun off len cap r e=>hn (by simp only [z9k,e])
  | value f=>simp [Yz] at hk
  | invoke r m=>simp [Yz] at hk
 | _=>simp [Yz] at hk
theorem We : ∀(d:Nat) (a:AVal) (u:Value),pf d a=true→Zj ρ a u→Zj ρ.bare a u
 | 0,_,_,h,_=>by simp [pf] at h
 | d+1,a,u,h,hr=>by
  cases hr with
  | undef=>simp [pf] at h
  | bool=>exact .bool _
  | int=>exact .int _ _
  | str=>exact .str _
  | mapr=>simp [pf] at h
  | ifbt=>exact .ifbt
  | ifbf=>exact .ifbf _ _
  | agg cs vs hl hh=>simp only [pf,Aw] at h;exact .agg cs vs hl fun i h1 h2=>We d _ _ (h _ (AE h1)) (hh i h1 h2)
  | tup cs vs hl hh=>simp only [pf,Aw] at h;exact .tup cs vs hl fun i h1 h2=>We d _ _ (h _ (AE h1)) (hh i h1 h2)
  | ptr=>simp [pf] at h
  | nilp=>exact .nilp
  | sl=>simp [pf] at h
  | sla=>simp [pf] at h
  | slan=>simp [pf] at h
  | slv=>simp [pf] at h
  | slve=>simp [pf] at h
  | slvn=>simp [pf] at h
  | nnl=>simp [pf] at h
  | epa=>simp [pf] at h
  | nils=>exact .nils
  | fn f cs vs hl hh=>obtain rfl:cs=[]:=List.isEmpty_iff.1 h;exact .fn f [] vs hl fun i h1=>absurd h1 (Ay _)
  | nilf=>exact .nilf
  | fnb=>simp [pf] at h
  | yld=>simp [pf] at h
  | ifc=>simp [pf] at h
  | nili=>exact .nili
  | dat len get blk base sz cap val cK hsz hv hh=>exact .dat len get blk base sz cap val cK hsz hv hh
  | datn get=>exact .datn get
  | datz get a c=>exact .datz get a c
  | dptr cs blk base val hv hh=>exact .dptr cs blk base val hv hh
def y8r (P:Program) (f:FuncId) (F:List AVal→Option (AVal×Bool)):Prop:=
 ∀args v,F args=some (v,true)→ ∀(H:Old) (vals:Array Value) (w:World),Xj (Zj (Jn H)) args vals.toList→(∀k o,H k=some o→w.heap[k]? =some o)→Glob H→
  Calls P f vals w fun e w'=> ∃H' u,(∀k o,H k=some o→H' k=some o)∧(∀k o,H' k=some o→w'.heap[k]? =some o)∧(∀k,k<w.heap.size→H' k=H k)∧e=.returned u∧Zj (Jn H') v u∧RowKit.Below w.heap.size w w'
def x8z (P:Program) (f:FuncId) (F:List AVal→Mem→Option (AVal×Nat×ABlk×Bool)):Prop:=
 ∀args mem v b blk,F args mem=some (v,b,blk,true)→(Ze mem b).isSome =true→ ∀(ρ:Rho) (next floor:Nat) (vals:Array Value) (w:World),floor≤b→Xj (Zj ρ) args vals.toList→Rel ρ mem next w→
  Calls P f vals w fun e w'=> ∃u,e=.returned u∧Zj ρ v u∧Rel ρ (Ya mem b (some blk)) next w'∧Ev ρ ρ floor mem next (Ya mem b (some blk)) next w w'
def x5o (H:Old) (l:Option Loc):Rho:=⟨fun b=>if b=0 then l else none,H,fun _=>none⟩
def mem1 (ty:TypeId) (sz n:Nat) (get:Nat→List AVal):Mem:=Ya .leaf 0 (some ⟨rows n get,ty,some ⟨sz,n,.flat get⟩⟩)
def GroOk (P:Program) (f:FuncId) (ty:TypeId) (F:Nat→(Nat→List AVal)→List AVal→Option (Nat×(Nat→List AVal)×Bool)):Prop:=
 ∀ (sz n:Nat) (get:Nat→List AVal) (r:List AVal) (n':Nat) (g:Nat→List AVal),F n get r=some (n',g,true)→plR sz n get=true→plR sz n' g=true→1≤sz→ ∀(H:Old) (l:Option Loc) (vals:Array Value) (w:World),
  Xj (Zj (x5o H l)) (.sla 0 sz 0 n (.un sz)::r) vals.toList→Rel (x5o H l) (mem1 ty sz n get) 1 w→(∀k o,w.heap[k]? =some o→(∃l0,l=some l0∧l0.blk=k)∨H k=some o)→
  Calls P f vals w fun e w'=> ∃ρ' u m' nx b,e=.returned u∧Zj ρ' (.sla b sz 0 n' (.un sz)) u∧Ze m' b=some ⟨rows n' g,ty,some ⟨sz,n',.flat g⟩⟩∧Rel ρ' m' nx w'∧
   (∀k o,H k=some o→ρ'.fz k=some o)∧w.heap.size≤w'.heap.size∧w'.os=w.os∧w'.tape=w.tape∧w'.output=w.output
def SpecOk (P:Program) (f:FuncId):Spec→Prop
 | .val F=>y8r P f F
 | .eff F=>x8z P f F
 | .gro ty F=>GroOk P f ty F
def Zk (P:Program) (S:Specs):Prop:=
 ∀f F,S f=some F→(∃fn,P.funcs[f]? =some fn∧fn.body.isSome=true)∧SpecOk P f F
def x8r (P:Program):Prop:=(P.funcs[x6h]?).isSome =true→ ∀(b:Nat) (p v:Value) (w:World) (l:List UInt8),l.length≤9223372036854775807→w.heap[b]? =some (.cells #[p,v] bldT (0,0))→
 ((v=.slice none 0 0∧l=[])∨ ∃g o c cur,v=.slice (some ⟨g,o,none⟩) l.length c∧l.length≤c∧w.heap[g]? =some (.cells cur bytT (0,0))∧(l≠ []→o+l.length≤cur.size)∧ ∀j x,l[j]? =some x→cur[o+j]? =some (.int .u8 x.toNat))→
 Calls P x6h #[.pointer (some ⟨b,0,none⟩)] w fun e w'=>e=.returned (.string ⟨l.toArray⟩)∧w.heap.size≤w'.heap.size∧
  (∀k o,w.heap[k]? =some o→(∀g o n c,v=.slice (some ⟨g,o,none⟩) n c→g≠k)→w'.heap[k]? =some o)∧w'.os=w.os∧w'.tape=w.tape∧w'.output=w.output
def Qa (P:Program):Prop:=(∀(f:FuncId) (fn:Func),P.funcs[f]? =some fn→fn.body.isSome=true→(fn.name == "runtime.NumGoroutine")=false)∧x8r P
def ROk (P:Program) (R:Runner):Prop:=
 ∀ cx todo st st',cx.floor≤st.next→R cx todo st=some st'→st'.ob=true→ ∀(ρ:Rho) (a:Act) (w:World) (b:Frame) (cs:List Frame),a.defers=[]→Xz ρ st.env cx.n a.tmps→Rel ρ st.mem st.next w→
  ∃ρ' a' todo' w',Steps P (lone (b.at a todo) cs w) (lone {b.at a' todo' with mode:=.returning} cs w')∧a'.defers=[]∧Xz ρ' st'.env cx.n a'.tmps∧Rel ρ' st'.mem st'.next w'∧
   Ev ρ ρ' cx.floor st.mem st.next st'.mem st'.next w w'
theorem z5f : ∀(args:List AVal) (i:Nat) (t:T AVal) (k:Nat),T.get .undef (z1z args i t) k=if i≤k∧k<i+args.length then args.getD (k - i) .undef else T.get .undef t k
 | [],i,t,k=>by rw [As (by grind)];rfl
 | a::r,i,t,k=>by
  simp only [z1z];rw [z5f r (i+1) _ k,T.get_set];by_cases h1:k=i
  ·subst h1;rw [As (by omega),Av rfl,Av (by simp)];simp
  ·by_cases h2:i+1≤k∧k<i+1+r.length
   ·rw [Av h2,Av (by simp;omega)];have:k - i=(k - (i+1))+1:=(by omega);rw [this];simp
   ·rw [As h2,As h1,As (by simp;omega)]
def z9t (tmps:Array Value):ResultVar→Sem Value
 | .tmp t=>pure (tmps.getD t undef)
 | .cell a t=>do loadVar t (←asAddr (tmps.getD a undef))
theorem y6v (fn:Func) (tmps:Array Value):results fn tmps=(do
  let vs←fn.results.mapM (z9t tmps)
  pure (if h:vs.size=1 then vs[0] else .tuple vs)):=by
 unfold results;have:(fun r:ResultVar=>(match r with | .tmp t=>pure (tmps.getD t undef) | .cell a t=>do loadVar t (←asAddr (tmps.getD a undef)):Sem Value))=z9t tmps:=by
  funext r
  cases r <;> rfl
 rw [←this];rfl
theorem z9a {st:St} {w:World} {tmps:Array Value} {n:Nat} (cH:Xz ρ st.env n tmps) (cD:Rel ρ st.mem st.next w) {r:ResultVar} {v:AVal} (h:z9b P st r=some v):
  ∃u,Zj ρ v u∧(z9t tmps r).run P w=.ok u w:=by
 have get: ∀t,Zj ρ (st.tmp t) (tmps.getD t undef):=fun t=>cH.get t;cases r with
 | tmp t=>simp only [z9b,Ab] at h;subst h;exact ⟨_,get t,rfl⟩
 | cell a t=>
  simp only [z9b] at h;obtain ⟨z,hz,hr⟩:=z5x cD h (get a);refine ⟨z,hz,?_⟩;have ha:=get a;unfold z9t;simp only;generalize tmps.getD a undef=u at ha hr ⊢;unfold y4d at h;split at h
  ·rename_i e;rw [e] at ha;cases ha
   grind [Instr.loadAt,Instr.sureAddr,asAddr]
  ·rename_i e;rw [e] at ha;cases ha
   grind [Instr.loadAt,Instr.sureAddr,asAddr]
  ·cases h
theorem Qf {st:St} {w:World} {tmps:Array Value} {n:Nat} (cH:Xz ρ st.env n tmps) (cD:Rel ρ st.mem st.next w): ∀{rs:List ResultVar} {vs:List AVal},Vu P st rs=some vs→
  ∃us,Xj (Zj ρ) vs us∧(rs.mapM (z9t tmps)).run P w=.ok us w
 | [],vs,h=>by simp only [Vu,Ab] at h;subst h;exact ⟨[],.nil,by simp⟩
 | r::rs,vs,h=>by
  unfold Vu at h;split at h
  ·rename_i v vs' h1 h2;obtain rfl:=Ac h;obtain ⟨u,hu,hr⟩:=z9a cH cD h1;obtain ⟨us,hus,hrs⟩:=Qf cH cD h2;refine ⟨u::us,.cons hu hus,?_⟩;rw [List.mapM_cons,Sem.run_bind,hr];simp only [Result.andThen_ok,Sem.run_bind,hrs,Sem.run_pure]
  ·cases h
theorem Jo {fn:Func} {st:St} {w:World} {tmps:Array Value} {n:Nat} (cH:Xz ρ st.env n tmps) (cD:Rel ρ st.mem st.next w) {vs:List AVal} (h:Vu P st fn.results.toList=some vs):
  ∃u,Zj ρ (Uq vs) u∧(results fn tmps).run P w=.ok u w:=by
 obtain ⟨us,hus,hr⟩:=Qf cH cD h;refine ⟨if h:us.toArray.size=1 then us.toArray[0] else .tuple us.toArray,?_,?_⟩
 ·cases hus with
  | nil=>exact .tup [] _ rfl fun i h1 _=>by simp at h1
  | cons h1 hs=>cases hs with
   | nil=>simpa [Uq] using h1
   | cons h2 hs=>have dD:=Xj.cons h1 (Xj.cons h2 hs);have hl:=dD.length;simp only [Uq];rw [dif_neg (by simp)];exact .tup _ _ (by grind) fun i h1 h2=>by simpa using dD.get i h1 (by grind)
 ·rw [y6v,Sem.run_bind,Array.mapM_eq_mapM_toList,Sem.run_map,hr];rfl
theorem z5e {args:List AVal} {vals:Array Value} (h:Xj (Zj ρ) args vals.toList) (ntmps:Nat):
  Xz ρ (z1z args 0 .leaf) (Nat.max ntmps args.length) (vals++Array.replicate (ntmps - vals.size) undef):=by
 have hl:args.length=vals.size:=by simpa using h.length
 have hmax:Nat.max ntmps args.length=vals.size+(ntmps - vals.size):=by
  grind
 refine ⟨by grind,fun i=> ?_,fun i hi=> ?_⟩
 ·rw [z5f];by_cases hi:i<args.length
  ·rw [Av (by omega)];have h2:i<vals.toList.length:=by grind
   have:=h.get i hi h2;have e1:args.getD (i - 0) .undef =args[i]:=by simp [hi]
   have e2:(vals++Array.replicate (ntmps - vals.size) undef).getD i undef=vals.toList[i]:=by have h3:i<vals.size:=(by grind);simp [Array.getElem?_append,h3]
   grind
  ·rw [As (by omega)];exact .undef _
 ·have hle:args.length≤Nat.max ntmps args.length:=Nat.le_max_right _ _;rw [z5f,As (by omega)];rfl
theorem Uw {f:FuncId} {fn:Func} (hN:Qa P) (hf:P.funcs[f]? =some fn) (hb:fn.body.isSome=true) (args:Array Value) (w:World):(callFunc f args).run P w=.ok (.enter f args) w:=by
 have h1: ¬fn.name= "runtime.NumGoroutine" :=by simpa using hN.1 f fn hf hb
 have h2: ¬fn.body=none:=by grind
 simp [callFunc,hf,h1,h2]
theorem y1m {mem:Mem} {next:Nat} {w:World} (h:Rel ρ mem next w) {a a':AVal} {o:Bool} (hv:x6d mem a=(a',o)) (ho:o=true) {u:Value} (hr:Zj ρ a u) (hp:pf 3 a'=true):Zj (Jn fun k=>w.heap[k]?) a' u:=by
 subst ho;have hle:ρ.bare.le (Jn fun k=>w.heap[k]?):=⟨fun _ _ e=>(by cases e),fun k o e=>h.old k o e,fun _ _ e=>(by cases e)⟩
 unfold x6d at hv;split at hv
 ·rename_i b sz off len cap;split at hv
  ·rename_i blk hm;split at hv
   ·rename_i A hA;simp only [Aa,Ad,Aq] at hv;obtain ⟨rfl,h1,h2,h3⟩:=hv;obtain rfl:=Af h1;have h3:= @Ax _ (Classical.propDecidable _) h3;cases hr with
    | slan=>exact .datn _
    | sla _ _ _ _ _ l c hρ cK cE=>
     obtain ⟨dF,dY,cO⟩:=(h.blk b l blk hρ hm).arr A hA;obtain ⟨cur,el,hh,_⟩:=((h.blk b l blk hρ hm).rows hA).cells;refine .dat len _ l.blk (l.base+off*A.sz) A.sz c (fun i j=>(w.cell? ⟨l.blk,l.base+(off+i)*A.sz+j,none⟩).getD undef) cE (fun i hi=>cO _ (by omega)) (fun i j hi hj=> ?_) (fun i j hi hj=> ?_)
     ·obtain ⟨v,e1,e2⟩:=(h.rowAt hρ hm hA (r:=off+i) (by omega)) j hj;simp only [e1,Option.getD_some];exact (We 6 _ _ (Aw.1 (h3 (off+i)) _ (AE hj)) e2).mono hle
     ·obtain ⟨v,e1,e2⟩:=(h.rowAt hρ hm hA (r:=off+i) (by omega)) j (by grind);simp only [e1,Option.getD_some];refine ⟨cur,el,(0,0),hh,?_⟩
      grind [World.cell?]
   grind [pf]
  grind [pf]
 ·simp only [Aa] at hv;obtain ⟨rfl,_⟩:=hv;exact (We 3 _ _ hp hr).mono hle
theorem y1n {mem:Mem} {next:Nat} {w:World} (h:Rel ρ mem next w) {az:List AVal} {us:List Value} (hr:Xj (Zj ρ) az us): ∀{az':List AVal} {o:Bool},y8y mem az=(az',o)→o=true→az'.all (pf 3)=true→Xj (Zj (Jn fun k=>w.heap[k]?)) az' us:=by
 induction hr with
 | nil=>intro az' o hv _ _;simp only [y8y,Aa] at hv;obtain ⟨rfl,_⟩:=hv;exact .nil
 | @cons a b l m h1 _ ih=>intro az' o hv ho hp;unfold y8y at hv;split at hv;rename_i a1 o1 as1 q1 e1 e2;simp only [Aa] at hv;obtain ⟨rfl,rfl⟩:=hv;simp only [Ad] at ho;simp only [A5,Ad] at hp;exact .cons (y1m h e1 ho.1 h1 hp.1) (ih e2 ho.2 hp.2)
theorem y6m {σ:Rho} {v:AVal} {u:Value} (hs:scal v=true) (h:Zj σ v u):Zj ρ v u:=by
 cases h with
 | bool=>exact .bool _
 | int=>exact .int _ _
 | str=>exact .str _
 | ifbt=>exact .ifbt
 | ifbf=>exact .ifbf _ _
 | tup cs vs hl hh=>
  simp only [scal,Aw] at hs;refine .tup cs vs hl fun i h1 h2=> ?_;have k1:=hs _ (AE h1);have k2:=hh i h1 h2;generalize cs[i]=a at k1 k2;generalize vs[i]=b at k2;cases k2 with
  | undef=>exact .undef _
  | bool=>exact .bool _
  | int=>exact .int _ _
  | str=>exact .str _
  | ifbt=>exact .ifbt
  | ifbf=>exact .ifbf _ _
  | _=>simp at k1
 | _=>simp [scal] at hs
theorem x3m {sz n:Nat} {get:Nat→List AVal} (h:plR sz n get=true): ∀i,i<n→(get i).length =sz∧(get i).all pl=true:= @Ax _ (Classical.propDecidable _) h
theorem y9n {sz n:Nat} {get:Nat→List AVal} (h:plR sz n get=true): ∀v∈rows n get,pl v=true:=fun v hv=>by
 obtain ⟨i,hi,hv⟩:=List.mem_flatMap.1 hv
 grind [x3m]
theorem pl_any {v:AVal} {u:Value} {ρ':Rho} (h:pl v=true) (hr:Zj ρ v u):Zj ρ' v u:=by
 cases hr <;> first | exact .bool _ | exact .int _ _ | (cases h;done)
theorem Yi.pl {w:World} {ab:ABlk} {l:Loc} (h:Yi ρ w ab l) (hp: ∀v∈ab.cells,pl v=true) (ρ':Rho):Yi ρ' w ab l:=by
 cases h with
 | plain h=>
  obtain ⟨h0,h1,h2,h3,cs,el,h4,h5,h6⟩:=h;refine .plain ⟨h0,h1,h2,h3,cs,el,h4,h5,fun i hi=> ?_⟩
  grind [pl_any]
 | obj o r ty h n z=>subst h;have:=hp _ (Bo ..);cases this
theorem x0x {f:FuncId} {F:Nat→(Nat→List AVal)→List AVal→Option (Nat×(Nat→List AVal)×Bool)} {ty:TypeId} (hF:GroOk P f ty F) {floor next:Nat} {mem:Mem} {b sz n:Nat} {r:List AVal} {cells:List AVal} {A:Arr} (hm:Ze mem b=some ⟨cells,ty,some A⟩)
  (hA:A.sz=sz∧A.n=n) (hr:r.all (pf 3)=true) (hfl:floor≤b) (hsz:1≤sz) {n':Nat} {g:Nat→List AVal} (hv:F n A.get r=some (n',g,true)) (hp:plR sz n A.get=true) (hp':plR sz n' g=true)
  {vals:Array Value} (cG:Xj (Zj ρ) (.sla b sz 0 n (.un sz)::r) vals.toList) {w:World} (cD:Rel ρ mem next w):
  Calls P f vals w fun e w'=> ∃ρ' u,e=.returned u∧Zj ρ' (.sla next sz 0 n' (.un sz)) u∧Rel ρ' (Ya (Ya mem b none) next (some ⟨rows n' g,ty,some ⟨sz,n',.flat g⟩⟩)) (next+1) w'∧
   Ev ρ ρ' floor mem next (Ya (Ya mem b none) next (some ⟨rows n' g,ty,some ⟨sz,n',.flat g⟩⟩)) (next+1) w w':=by
 obtain ⟨rfl,rfl⟩:=hA;have hbn:b<next:=by
  rcases AS b next with h | h
  ·exact h
  ·rw [cD.bd b h] at hm;cases hm
 let H:Old:=fun k=>if∃l,ρ b=some l∧l.blk=k then none else w.heap[k]?
 have hH: ∀k,(¬ ∃l,ρ b=some l∧l.blk=k)→H k=w.heap[k]? :=fun k hk=>As hk;have hHs: ∀k o,H k=some o→w.heap[k]? =some o∧ ¬ ∃l,ρ b=some l∧l.blk=k:=fun k o e=>by
  by_cases hk: ∃l,ρ b=some l∧l.blk=k;all_goals grind
 have hfz: ∀k o,ρ.fz k=some o→H k=some o:=fun k o e=>by
  rw [hH k fun ⟨l,h1,h2⟩=>by
   have:=cD.sep b l h1 (by rw [hm];rfl)
   grind]
  exact cD.old k o e
 have hbare:ρ.bare.le (x5o H (ρ b)):=⟨fun _ _ e=>(by cases e),hfz,fun _ _ e=>(by cases e)⟩
 have key: ∀(n0:Nat) (u:Value),Zj ρ (.sla b A.sz 0 n0 (.un A.sz)) u→Zj (x5o H (ρ b)) (.sla 0 A.sz 0 n0 (.un A.sz)) u:=fun n0 u h1=>by
  cases h1 with
  | sla _ _ _ _ _ l c h hc cE=>exact .sla 0 _ 0 _ _ l c (by show (if (0:Nat)=0 then ρ b else none)=_;grind) hc cE
  | slan _ _ _ _=>exact .slan _ _ _ _
 have hargs1:Xj (Zj (x5o H (ρ b))) (.sla 0 A.sz 0 A.n (.un A.sz)::r) vals.toList:=by
  generalize vals.toList=us at cG;cases cG with
  | cons h1 h2=>
   refine .cons ?_ ?_
   ·grind
   ·exact Xj.of h2.length fun i g1 g2=>(We 3 _ _ (Aw.1 hr _ (AE g1)) (h2.get i g1 g2)).mono hbare
 have hget0: ∀l,x5o H (ρ b) 0=some l↔ρ b=some l:=fun l=>Iff.rfl;have cS: ∀c l,x5o H (ρ b) c=some l→c=0∧ρ b=some l:=fun c l e=>by
  have e:(if c=0 then ρ b else none)=some l:=e
  grind
 have hm1:Ze (mem1 ty A.sz A.n A.get) 0=some ⟨rows A.n A.get,ty,some ⟨A.sz,A.n,.flat A.get⟩⟩:=Zq _ _ _;have dA:Rel (x5o H (ρ b)) (mem1 ty A.sz A.n A.get) 1 w:=by
  refine ⟨fun c l e=>by grind,fun c c' l l' e e' _ _ _=>by grind,fun c l ab e hc=> ?_,fun k o e=>(hHs k o e).1,fun c l e _=> ?_,fun c l e=>cD.real b l (cS c l e).2,fun c hc=> ?_,⟨fun j l e=>(by cases e),cD.ldom.2.mono hfz⟩⟩
  ·obtain ⟨rfl,e2⟩:=cS c l e;rw [hm1] at hc;obtain rfl:=Ac hc;have q:=(cD.blk b l _ e2 hm).rows rfl;obtain ⟨q0,q1,q2,q3,cs,el,q4,q5,q6⟩:=q;obtain ⟨a1,a2,a3⟩:=q3 A rfl;simp only at a1;subst a1;have q':Yi ρ w ⟨rows A.n A.get,ty,some ⟨A.sz,A.n,.flat A.get⟩⟩ l:=.plain ⟨q0,q1,q2,fun B e=>by
    obtain rfl:=Ac e;exact ⟨rfl,a2,a3⟩,cs,el,q4,q5,q6⟩
   exact q'.pl (y9n hp) _
  ·obtain ⟨_,e2⟩:=cS c l e;exact Av ⟨l,e2,rfl⟩
  ·show Ze (Ya .leaf 0 _) c=none;rw [Zy _ _ (by omega)];rfl
 have dD: ∀k o,w.heap[k]? =some o→(∃l0,ρ b=some l0∧l0.blk=k)∨H k=some o:=fun k o e=>by
  grind
 refine (hF A.sz A.n A.get r n' g hv hp hp' hsz H (ρ b) vals w hargs1 dA dD).mono fun e w' ⟨ρ1,u,m',nx,b1,he,hu,hmb,hr1,hfz1,hsize,hos,htape,hout⟩=> ?_;have hgone: ∀k,(¬ ∃l,ρ b=some l∧l.blk=k)→ ∀o,w.heap[k]? =some o→w'.heap[k]? =some o∧ρ1.fz k=some o:=fun k hk o e=>by have h2:=hfz1 k o ((hH k hk).trans e);exact ⟨hr1.old k o h2,h2⟩
 let ρ':Rho:=⟨fun c=>if c=next then ρ1 b1 else ρ c,ρ.fz,ρ.lp⟩
 have cJ: ∀c l,ρ' c=some l→(c=next∧ρ1 b1=some l)∨(c≠next∧ρ c=some l):=fun c l e=>by
  grind
 have hnew:ρ' next=ρ1 b1:=Av rfl
 have holdc: ∀c,c<next→ρ' c=ρ c:=fun c hc=>As (by omega)
 have hle:ρ.le ρ':=⟨fun c l e=>by rw [holdc c (cD.dom c l e)];exact e,fun _ _ e=>e,fun _ _ e=>e⟩
 have hm': ∀c,c≠next→Ze (Ya (Ya mem b none) next (some ⟨rows n' g,ty,some ⟨A.sz,n',.flat g⟩⟩)) c=if c=b then none else Ze mem c:=fun c hc=>by
  grind [Zy,Zq]
 have hmn:Ze (Ya (Ya mem b none) next (some ⟨rows n' g,ty,some ⟨A.sz,n',.flat g⟩⟩)) next=some ⟨rows n' g,ty,some ⟨A.sz,n',.flat g⟩⟩:=Zq _ _ _
 have hother: ∀c l,ρ c=some l→(Ze mem c).isSome =true→c≠b→ ¬ ∃l',ρ b=some l'∧l'.blk=l.blk:=fun c l e hs hcb ⟨l',e',hb⟩=>hcb (cD.inj c b l l' e e' hb.symm hs (by rw [hm];rfl));have hsome: ∀c l,ρ c=some l→ ∃o,w.heap[l.blk]? =some o:=fun c l e=>⟨_,Bi (cD.real c l e)⟩
 have hsepn: ∀l,ρ1 b1=some l→ρ1.fz l.blk=none:=fun l e=>hr1.sep b1 l e (by rw [hmb];rfl);have cR:Zj ρ' (.sla next A.sz 0 n' (.un A.sz)) u:=by
  cases hu with
  | sla _ _ _ _ _ l c h hc cE=>exact .sla next _ 0 _ _ l c (hnew.trans h) hc cE
  | slan _ _ _ _=>exact .slan _ _ _ _
 refine ⟨ρ',u,he,cR,?_,?_⟩
 ·refine ⟨fun c l e=> ?_,fun c c' l l' e e' hbl hs hs'=> ?_,fun c l ab e hc=> ?_,fun k o e=> ?_,fun c l e hs=> ?_,fun c l e=> ?_,fun c hc=> ?_,⟨fun j l e=>AQ (cD.ldom.1 j l e),cD.ldom.2⟩⟩
  ·rcases cJ c l e with ⟨rfl,_⟩ | ⟨_,e⟩
   ·omega
   ·have:=cD.dom c l e;omega
  ·have clash: ∀c l l',c≠next→ρ c=some l→ρ1 b1=some l'→l.blk=l'.blk→(Ze (Ya (Ya mem b none) next (some ⟨rows n' g,ty,some ⟨A.sz,n',.flat g⟩⟩)) c).isSome =true→False:=fun c l l' hc e e' hbl hs=>by
    grind
   rcases cJ c l e with ⟨h1,h2⟩ | ⟨h1,h2⟩ <;> rcases cJ c' l' e' with ⟨h1',h2'⟩ | ⟨h1',h2'⟩
   ·rw [h1,h1']
   ·grind
   ·grind
   ·rw [hm' c h1] at hs;rw [hm' c' h1'] at hs';by_cases hcb:c=b
    ·grind
    ·by_cases hcb':c'=b
     ·grind
     ·rw [As hcb] at hs;rw [As hcb'] at hs';exact cD.inj c c' l l' h2 h2' hbl hs hs'
  ·rcases cJ c l e with ⟨h1,h2⟩ | ⟨h1,h2⟩
   ·subst h1;rw [hmn] at hc;obtain rfl:=Ac hc;have q:=(hr1.blk b1 l _ h2 hmb).pl (y9n hp') ρ';exact .plain ⟨(q.rows rfl).typ,q.n,q.tot,q.arr,(q.rows rfl).cells⟩
   ·rw [hm' c h1] at hc;by_cases hcb:c=b
    ·grind
    ·rw [As hcb] at hc;obtain ⟨o,ho⟩:=hsome c l h2;refine (cD.blk c l ab h2 hc).world hle ?_;rw [(hgone l.blk (hother c l h2 (by rw [hc];rfl) hcb) o ho).1,ho]
  ·have h1:=hfz k o e;obtain ⟨h2,h3⟩:=hHs k o h1;exact (hgone k h3 o h2).1
  ·rcases cJ c l e with ⟨h1,h2⟩ | ⟨h1,h2⟩
   ·cases hq:ρ.fz l.blk with
    | none=>rfl
    | some o=>
     grind
   ·rw [hm' c h1] at hs;by_cases hcb:c=b
    ·grind
    ·rw [As hcb] at hs;exact cD.sep c l h2 hs
  ·rcases cJ c l e with ⟨h1,h2⟩ | ⟨h1,h2⟩
   ·exact hr1.real b1 l h2
   grind
  ·rw [hm' c (by omega),As (by omega)];exact cD.bd c (by omega)
 ·refine ⟨hle,fun c hc=>holdc c hc,by omega,fun c hc hn cs ty2 hq=> ?_,fun k o hk hn=> ?_,fun c l hc e=> ?_,hsize,hos,htape,hout,fun k _=>rfl⟩
  ·grind
  ·exact (hgone k (fun ⟨l,h1,h2⟩=>hn b l h1 hfl h2) o hk).1
  ·rcases cJ c l e with ⟨h1,h2⟩ | ⟨h1,h2⟩
   ·rcases AS l.blk w.heap.size with h | h
    ·rcases dD l.blk _ (Bi h) with ⟨l0,h3,h4⟩ | h3;all_goals grind
    grind
   grind
theorem z6b {S:Specs} {R:Runner} (hS:Zk P S) (hR:ROk P R) {lift:Bool} {f:FuncId} {args:List AVal} {cx:Ctx} {st st':St} {v:AVal} (hcx:cx.floor≤st.next) (h:y8o P S R lift f args cx st=some (v,st')) (hob:st'.ob=true)
  {vals:Array Value} (cG:Xj (Zj ρ) args vals.toList) {w:World} (cD:Rel ρ st.mem st.next w):
  (∃fn,P.funcs[f]? =some fn∧fn.body.isSome=true)∧Calls P f vals w fun e w'=> ∃ρ' u,e=.returned u∧z6v ρ cx.floor st st' v w ρ' u w':=by
 unfold y8o at h;split at h
 ·rename_i F hF;rcases Xc h with ⟨hca,h⟩ | ⟨_,h⟩
  ·split at h
   ·rename_i v' b hFa;obtain ⟨hc2,h⟩:=Zv h;have hc1:=Aw.1 hca;simp only [Ag,Aa] at h;obtain ⟨st1,h1,rfl,rfl⟩:=h;obtain ⟨_,e2,e3,e4⟩:=Yp h1;obtain ⟨rfl,_⟩:=e4 hob;obtain ⟨hfn,dE⟩:=hS f _ hF;refine ⟨hfn,?_⟩;have hargs0:Xj (Zj ρ.bare) args vals.toList:=Xj.of cG.length fun i g1 g2=>We 3 _ _ (hc1 _ (AE g1)) (cG.get i g1 g2);refine (dE args v' hFa ρ.fz vals w hargs0 cD.old cD.ldom.2).mono fun e w' ⟨H',u,hle,hold,cV,he,hv,hb⟩=>⟨⟨ρ.f,H',ρ.lp⟩,u,he,Zj.mono (ρ:=Jn H') (ρ':=⟨ρ.f,H',ρ.lp⟩) ⟨fun _ _ e=>(by cases e),fun _ _ e=>e,fun _ _ e=>(by cases e)⟩ hv,?_,?_⟩
    ·rw [e2,e3];have hle':ρ.le ⟨ρ.f,H',ρ.lp⟩:=⟨fun _ _ e=>e,hle,fun _ _ e=>e⟩
     exact ⟨cD.dom,cD.inj,fun b l ab q1 q2=>(cD.blk b l ab q1 q2).world hle' (hb.block _ (cD.real b l q1)),hold,fun b l q hs=>(cV _ (cD.real b l q)).trans (cD.sep b l q hs),fun b l q=>AG (cD.real b l q) hb.size,cD.bd,cD.ldom.1,cD.ldom.2.mono hle⟩
    ·rw [e2,e3];exact ⟨⟨fun _ _ e=>e,hle,fun _ _ e=>e⟩,fun _ _=>rfl,Aj _,fun _ _ _ _ _ h=>h,fun k o hk _=>by rw [hb.block k (Ar.1 hk).1];exact hk,
      fun b l hb' hl=>by grind,hb.size,hb.os,hb.tape,hb.output,cV⟩
   ·cases h
  ·split at h;rename_i args' o hview;split at h
   ·rename_i v' b hFa;obtain ⟨hc,h⟩:=Zv h;simp only [Ad] at hc;simp only [Ag,Aa] at h;obtain ⟨st1,h1,rfl,rfl⟩:=h;obtain ⟨_,e2,e3,e4⟩:=Yp h1;obtain ⟨hob1,_⟩:=e4 hob;simp only [Ad] at hob1;obtain ⟨ho,rfl⟩:=hob1;obtain ⟨hfn,dE⟩:=hS f _ hF;refine ⟨hfn,?_⟩;have hargs0:=y1n cD cG hview ho hc.1;refine (dE args' v' hFa (fun k=>w.heap[k]?) vals w hargs0 (fun _ _ e=>e) (cD.ldom.2.mono cD.old)).mono fun e w' ⟨H',u,hle,hold,cV,he,hv,hb⟩=>⟨ρ,u,he,y6m hc.2 hv,?_,?_⟩
    ·rw [e2,e3];exact ⟨cD.dom,cD.inj,fun b l ab q1 q2=>(cD.blk b l ab q1 q2).world (Rho.le_refl _) (hb.block _ (cD.real b l q1)),fun k o q=>by rw [hb.block k (Ar.1 (cD.old k o q)).1];exact cD.old k o q,cD.sep,fun b l q=>AG (cD.real b l q) hb.size,cD.bd,cD.ldom⟩
    ·rw [e2,e3];exact ⟨Rho.le_refl _,fun _ _=>rfl,Aj _,fun _ _ _ _ _ h=>h,fun k o hk _=>by grind,
      fun b l hb' hl=>by grind,hb.size,hb.os,hb.tape,hb.output,fun _ _=>rfl⟩
   ·cases h
 ·rename_i F hF;split at h
  ·rename_i v0 b blk o hFa;split at h
   ·rename_i ab hm;obtain ⟨hc,h⟩:=Zv h;simp only [Ad] at hc;simp only [Ag,Aa] at h;obtain ⟨st1,h1,rfl,rfl⟩:=h;obtain ⟨_,e2,e3,e4⟩:=Yp h1;obtain ⟨rfl,_⟩:=e4 hob;obtain ⟨hfn,dE⟩:=hS f _ hF;refine ⟨hfn,?_⟩;refine (dE args st.mem v0 b blk hFa (by rw [hm];rfl) ρ st.next cx.floor vals w (Ae hc.2) cG cD).mono fun e w' ⟨u,he,hv,hr,hev⟩=>⟨ρ,u,he,hv,?_,?_⟩
    ·rw [e2,e3];exact hr
    ·rw [e2,e3];exact hev
   ·cases h
  ·cases h
 ·rename_i ty0 F hF;split at h
  ·rename_i b sz n sz' r;split at h
   ·rename_i cells ty A hm;obtain ⟨hc,h⟩:=Zv h;simp only [Ad] at hc;obtain ⟨⟨c0,c1,c2⟩,c4,c5,c6⟩:=hc;have c0:=Af c0;split at h
    ·rename_i n' g o hFa;simp only [Ag,Aa] at h;obtain ⟨st1,h1,rfl,rfl⟩:=h;obtain ⟨env,mem,next,orc,ob⟩:=st;simp only at h1 hm hcx cD ⊢;obtain ⟨_,e2,e3,e4⟩:=Yp h1;obtain ⟨hob1,_⟩:=e4 hob;simp only [Ad] at hob1;obtain ⟨rfl,c3,hp,hp'⟩:=hob1;obtain ⟨hfn,dE⟩:=hS f _ hF;rw [←c0] at dE;obtain rfl:=Af c1;refine ⟨hfn,?_⟩;refine (x0x dE hm ⟨Af c2,Af c3⟩ c4 (Ae c5) (Ae c6) hFa hp hp' cG cD).mono fun e w' ⟨ρ',u,he,hv,hr,hev⟩=>⟨ρ',u,he,hv,?_,?_⟩
     all_goals grind
    ·cases h
   ·cases h
  ·cases h
 ·split at h
  ·rename_i fn hf;split at h
   ·rename_i body hb;split at h
    ·rename_i st2 hr;split at h
     ·rename_i vs hvs;simp only [Ab,Aa] at h;obtain ⟨rfl,rfl⟩:=h;refine ⟨⟨fn,hf,by rw [hb];rfl⟩,?_⟩;intro cs
      let b:Frame:={(default:Frame) with fn:=f,kind:=.normal}
      have dW:Frame.enter P f vals .normal =b.at {tmps:=vals++Array.replicate (fn.ntmps - vals.size) undef,defers:=[]} [.code body]:=by simp [Frame.enter,Frame.at,hf,hb,b]
      obtain ⟨ρ',a',todo',w',cU,hd,cH,cW,hev⟩:=hR _ _ _ _ (by
       cases lift with
       | false=>exact hcx
       | true=>exact Aj _) hr hob ρ {tmps:=vals++Array.replicate (fn.ntmps - vals.size) undef,defers:=[]} w b cs rfl (z5e cG fn.ntmps) cD
      obtain ⟨u,hu,hres⟩:=Jo cH cW hvs;rw [←dW] at cU;refine ⟨.returned u,w',_,⟨ρ',u,rfl,hu,cW,?_⟩,cU,rfl,rfl,hd,rfl,fn,hf,hres⟩;refine hev.lower ?_
      grind
     ·cases h
    ·cases h
   ·cases h
  ·cases h
theorem z9d {S:Specs} {R:Runner} (hN:Qa P) (hS:Zk P S) (hR:ROk P R) {lift:Bool} {o:Oper} {cx:Ctx} {st st':St} {v:AVal} (hcx:cx.floor≤st.next)
  (h:Xy P S R lift o.op cx st=some (v,st')) (hob:st'.ob=true) {ev:Operand→AVal} (hev: ∀x,x∈o.op.operands→ev x=st.eval x) {a:Act} (hr:Vk ρ ev a.eval o.op) {w:World} (cD:Rel ρ st.mem st.next w):
  x9a P o a w (z6v ρ cx.floor st st' v w):=by
 obtain ⟨dst,op,type,pos,after,guard⟩:=o;simp only at h hr hev
 replace hr:Vk ρ st.eval a.eval op:=fun x hx=>by rw [←hev x hx];exact hr x hx
 clear hev;unfold Xy at h;split at h
 ·rename_i t x;split at h
  ·rename_i v' b st0 hv;obtain ⟨l1,l2,l3,l4⟩:=Kk hv;simp only [Ag,Aa] at h;obtain ⟨st1,h1,rfl,rfl⟩:=h;obtain ⟨e1,e2,e3,e4⟩:=Yp h1;obtain ⟨rfl,hob0⟩:=e4 hob;obtain ⟨z,hz,cF⟩:=z2r cD (l4 hob0).1 (hr x (by simp [Op.operands]));exact .inl ⟨ρ,z,w,by simp [execOp,cF],hz,by grind,by rw [e2,e3,l2,l3];exact Ev.refl _ _ _ _ _ cD.dom⟩
  ·cases h
 ·rename_i t;simp only [Ag,Aa] at h;obtain ⟨z,hz,rfl,rfl⟩:=h;obtain ⟨_,zv,_,_,hzr,hzv⟩:=Yf (ρ:=ρ) hz;refine .inl ⟨_,.pointer (some ⟨w.heap.size,0,none⟩),_,?_,Qj cD cx.floor z t zv.cells t (by rw [hzr.1];grind) hzr.2 _ _ fun ρ' hρ'=>.ptr _ 0 _ hρ'⟩;simp_all [execOp,Instr.alloc,newVar,newRow]
 ·rename_i t x;obtain ⟨hbx,h⟩:=Zv h;simp only [Ab,Aa] at h;obtain ⟨rfl,rfl⟩:=h;have hc:=(hr x (by simp [Op.operands])).cells hbx;refine .inl ⟨_,.pointer (some ⟨w.heap.size,0,none⟩),_,?_,Qj cD cx.floor _ t (a.eval x).cells t (by rw [hc.1];grind) hc.2 _ _ fun ρ' hρ'=>.ptr _ 0 _ hρ'⟩;simp [execOp,Instr.box,newVar,newRow]
 ·rename_i t len parts;obtain ⟨ρ',u,w',cF,hp,_,_⟩:=z2j cD cx.floor h (Jr parts.toList fun p hp=>hr p.2 (by grind [Op.operands]));refine .inl ⟨ρ',u,w',?_,hp⟩;have:(parts.map fun (i,x)=>(i,a.eval x))=(parts.toList.map fun p=>(p.1,a.eval p.2)).toArray :=by
   grind
  simp [execOp,this,cF]
 ·rename_i t x y;split at h
  ·rename_i b sz r fo hb;simp only [Ag,Aa] at h;obtain ⟨st1,h,rfl,rfl⟩:=h;have hx:=hr x (by simp [Op.operands]);rw [hb] at hx;obtain ⟨w',cF,hp⟩:=z8z cD h hob hx (hr y (by simp [Op.operands]));exact .inr (.inl ⟨ρ,w',by simp [execOp,cF],hp⟩)
  ·simp only [Ag,Aa] at h;obtain ⟨st1,h,rfl,rfl⟩:=h;obtain ⟨w',cF,hp,_,_⟩:=y0v cD h (hr x (by simp [Op.operands])) (hr y (by simp [Op.operands]));exact .inr (.inl ⟨ρ,w',by simp [execOp,cF],hp⟩)
 ·rename_i t l c;rcases Xc h with ⟨_,h⟩ | ⟨_,h⟩
  ·rcases Xc h with ⟨_,h⟩ | ⟨_,h⟩
   ·obtain ⟨ρ',u,w',cF,hp,_,_⟩:=Vo (st:=st.dropO) cD cx.floor h (hr l (by simp [Op.operands])) (hr c (by simp [Op.operands]));exact .inl ⟨ρ',u,w',by simp [execOp,cF],hp.val,hp.rel,hp.ev⟩
   ·obtain ⟨ρ',u,w',cF,hp⟩:=z2g (st:=st.dropO) cD h hob (hr l (by simp [Op.operands])) (hr c (by simp [Op.operands]));exact .inl ⟨ρ',u,w',by simp [execOp,cF],hp.val,hp.rel,hp.ev⟩
  ·obtain ⟨ρ',u,w',cF,hp,_,_⟩:=Vo cD cx.floor h (hr l (by simp [Op.operands])) (hr c (by simp [Op.operands]));exact .inl ⟨ρ',u,w',by simp [execOp,cF],hp⟩
 ·rename_i args argTypes;have cG:Xj (Zj ρ) (args.toList.map st.eval) (args.map a.eval).toList :=by rw [AW];exact Xj.maps _ _ _ fun x hx=>hr x (by grind [Op.operands,Call.operands])
  unfold Ur at h;rcases Xc h with ⟨_,h⟩ | ⟨hty,h⟩
  ·cases h
  rw [Bool.not_eq_false'] at hty;rcases Xc h with ⟨_,h⟩ | ⟨_,h⟩
  ·obtain ⟨ρ',u,w',cF,hp⟩:=z6u (type:=type) cD h hob cG hty;exact .inl ⟨ρ',u,w',by simp_all [execOp,resolve,invoke,builtin],hp⟩
  split at h
  ·rename_i hxs;obtain ⟨ρ',u,w',cF,hp,_⟩:=Qi (type:=type) cD h hob (hxs ▸ cG) (by rw [hxs] at hty;exact hty);exact .inl ⟨ρ',u,w',by simp_all [execOp,resolve,invoke,builtin],hp⟩
  ·obtain ⟨ρ',u,w',cF,hp,_,_⟩:=Uy (type:=type) cD cx.floor h cG hty;exact .inl ⟨ρ',u,w',by simp_all [execOp,resolve,invoke,builtin],hp⟩
 ·rename_i args argTypes;have cG:Xj (Zj ρ) (args.toList.map st.eval) (args.map a.eval).toList :=by rw [AW];exact Xj.maps _ _ _ fun x hx=>hr x (by grind [Op.operands,Call.operands])
  unfold z7s at h;split at h
  ·rename_i b sz off len cap x xs hxs;obtain ⟨ρ',u,w',cF,hp⟩:=z2s (type:=type) (d:=.sla b sz off len cap) cD h hob (hxs ▸ cG) fun u hu=>by
    cases hu with
    | sla _ _ _ _ _ l c hρ _ cE=>grind
    | slan=>grind
   exact .inl ⟨ρ',u,w',by simp_all [execOp,resolve,invoke,builtin],hp⟩
  ·rename_i b sz off len x xs hxs;obtain ⟨ρ',u,w',cF,hp⟩:=z2s (type:=type) (d:=.slv b sz off len) cD h hob (hxs ▸ cG) fun u hu=>by
    cases hu with
    | slv _ _ _ _ l c hρ cE=>grind
    | slve _ _ _ blk base c=>grind
    | slvn=>grind
   exact .inl ⟨ρ',u,w',by simp_all [execOp,resolve,invoke,builtin],hp⟩
  ·obtain ⟨ρ',u,w',cF,hp,_,_⟩:=y4f (type:=type) cD cx.floor h cG;exact .inl ⟨ρ',u,w',by simp_all [execOp,resolve,invoke,builtin],hp⟩
 ·rename_i args argTypes;have cG:Xj (Zj ρ) (args.toList.map st.eval) (args.map a.eval).toList :=by rw [AW];exact Xj.maps _ _ _ fun x hx=>hr x (by grind [Op.operands,Call.operands])
  obtain ⟨ρ',u,w',cF,hp,_,_⟩:=y1b (type:=type) cD cx.floor h cG;exact .inl ⟨ρ',u,w',by simp_all [execOp,resolve,invoke,builtin],hp⟩
 ·rename_i f args argTypes;split at h
  ·rename_i g caps hg;have hf:=hr f (by simp [Op.operands,Call.operands]);rw [hg] at hf;generalize hw:a.eval f=u at hf;cases hf with
   | fn _ _ cvs hl hh=>
    have cG:Xj (Zj ρ) (args.toList.map st.eval++caps) (args.map a.eval++cvs).toList :=by rw [Array.toList_append,AW];exact Xj.append (Xj.maps _ _ _ fun x hx=>hr x (by grind [Op.operands,Call.operands])) (Xj.of (by grind) fun i h1 h2=>by grind)
    obtain ⟨⟨fn,hfn,hb⟩,hc⟩:=z6b hS hR hcx h hob cG cD;refine .inr (.inr ⟨g,args.map a.eval++cvs,?_,hc⟩);simp_all [Uw,execOp,resolve,Deferred.ofValue,invoke]
  ·rename_i g first hg
   have hf:=hr f (by simp [Op.operands,Call.operands]);rw [hg] at hf;generalize hw:a.eval f=u at hf;cases hf with
   | fnb _ _ cvs hl hh=>
    have cG:Xj (Zj ρ) (first++args.toList.map st.eval) (cvs++args.map a.eval).toList :=by rw [Array.toList_append,AW];exact Xj.append (Xj.of (by grind) fun i h1 h2=>by grind) (Xj.maps _ _ _ fun x hx=>hr x (by grind [Op.operands,Call.operands]))
    obtain ⟨⟨fn,hfn,hb⟩,hc⟩:=z6b hS hR hcx h hob cG cD;refine .inr (.inr ⟨g,cvs++args.map a.eval,?_,hc⟩);simp_all [Uw,execOp,resolve,Deferred.ofValue,invoke]
  ·cases h
 ·cases h
end
section
variable {P:Program} {ρ:Rho}
theorem Xz.congr {env env':T AVal} {n:Nat} {tmps:Array Value} (h:Xz ρ env n tmps) (he: ∀t,T.get .undef env' t=T.get .undef env t):Xz ρ env' n tmps:=
 ⟨h.size,fun i=>by rw [he];exact h.get i,fun i hi=>by rw [he];exact h.out i hi⟩
theorem Xz.eval {st:St} {n:Nat} {a:Act} (h:Xz ρ st.env n a.tmps) (x:Operand):Zj ρ (st.eval x) (a.eval x):=by
 cases x with
 | tmp t=>exact h.get t
 | const v=>exact x0e v
 | global g=>exact .undef _
 | func f=>exact .fn f [] #[] rfl fun i h1 _=>by simp at h1
theorem Xz.put {env env':T AVal} {n:Nat} {a:Act} (h:Xz ρ env n a.tmps) {dst:Option Tmp} {v:AVal} {u:Value} (hv:Zj ρ v u)
  (hp:(dst=none∧env'=env)∨ ∃d,dst=some d∧d<n∧env'=T.set .undef env d v):Xz ρ env' n (a.put dst u).tmps :=by
 rcases hp with ⟨rfl,rfl⟩ | ⟨d,rfl,hd,rfl⟩
 ·exact h
 ·have hsz:=h.size;refine ⟨by simp [Act.put,hsz],fun i=> ?_,fun i hi=> ?_⟩
  ·rw [T.get_set];by_cases hi:i=d
   ·simp_all [Act.put]
   ·rw [As hi];have:=h.get i
    simpa [Act.put,Array.getElem?_setIfInBounds_ne (Ne.symm hi)] using this
  ·rw [T.get_set,As (Nat.ne_of_gt (AG hd hi))];exact h.out i hi
theorem Act.put_defers' (a:Act) (dst:Option Tmp) (v:Value):(a.put dst v).defers =a.defers:=by cases dst <;> rfl
theorem y8h {ops:Array Oper} {o:Oper} {cx:Ctx} {st st':St} {e:Bool} (h:z1h ops o cx st=some (e,st')):st'.mem=st.mem∧st'.next=st.next∧(st'.ob=true→st.ob=true∧ ∀t,st'.tmp t=st.tmp t):=by
 unfold z1h at h;split at h
 ·grind
 ·split at h
  ·cases h
  ·rename_i d hd;split at h
   ·rename_i b hb;split at h;rename_i e1 st1 ht;split at h
    ·rename_i st2 hp;simp only [Ab,Aa] at h;obtain ⟨_,rfl⟩:=h;obtain ⟨t1,t2,t3,t4⟩:=Kg ht;obtain ⟨p1,p2,p3,p4⟩:=Ys hp;refine ⟨p1.trans t2,p2.trans t3,fun ho=> ?_⟩;rw [p3] at ho;obtain ⟨rfl,ho⟩:=t4 ho;refine ⟨ho,fun t=> ?_⟩;rcases p4 with ⟨e,_⟩ | ⟨d',e,_,he⟩
     ·cases e
     ·obtain rfl:=Ac e;show T.get .undef st2.env t=T.get .undef st.env t;rw [he,t1,T.get_set];split
      ·rename_i h;subst h;exact hb.symm
      ·rfl
    ·cases h
   all_goals grind
def Xn (ops:Array Oper) (o:Oper):Option Tmp:=o.guard.bind fun g=>(ops[g.1]?).bind (·.dst)
theorem y4a {ops:Array Oper} {o:Oper} {cx:Ctx} {st st':St} {e:Bool} (h:z1h ops o cx st=some (e,st')) (ho:st'.ob=true) {tmps:Array Value} (hsz:tmps.size=cx.n)
  (hr: ∀d,Xn ops o=some d→Zj ρ (st.tmp d) (tmps.getD d undef)):Region.wanted o (yielded ops tmps)=e:=by
 unfold z1h at h;unfold Region.wanted;split at h
 ·grind
 ·rename_i j want hg;rw [hg];simp only;split at h
  ·cases h
  ·rename_i d hd;have hrd:=hr d (by simp [Xn,hg,hd]);split at h
   ·rename_i b hb;split at h;rename_i e1 st1 ht;split at h
    ·rename_i st2 hp;simp only [Ab,Aa] at h;obtain ⟨rfl,rfl⟩:=h;obtain ⟨_,_,_,t4⟩:=Kg ht;obtain ⟨_,_,p3,p4⟩:=Ys hp;rw [p3] at ho;obtain ⟨rfl,_⟩:=t4 ho;rcases p4 with ⟨e,_⟩ | ⟨d',e,hlt,_⟩
     ·cases e
     ·obtain rfl:=Ac e;rw [hb] at hrd;have hlt':d<tmps.size:=(by grind);have cJ:tmps.getD d undef=tmps[d]:=(by simp [hlt']);rw [cJ] at hrd;have:yielded ops tmps j=some e1:=by unfold yielded;rw [hd];simp only [Option.bind_some,Bi hlt'];generalize tmps[d]=u at hrd;cases hrd;rfl
      grind
    ·cases h
   ·rename_i hb;simp only [Ab,Aa] at h;obtain ⟨rfl,rfl⟩:=h;rw [hb] at hrd;have:yielded ops tmps j=none:=by
     unfold yielded;rw [hd];simp only [Option.bind_some];by_cases hlt:d<tmps.size
     ·have cJ:tmps.getD d undef=tmps[d]:=(by simp [hlt]);rw [cJ] at hrd;rw [Bi hlt];generalize tmps[d]=u at hrd;cases hrd;rfl
     grind
    grind
   ·cases h
theorem x1o {cx:Ctx} {t:Nat} {kd:IntKind} {n:Int} {st st':St} (ht:st.tmp t=.int kd n) (h:st.conc cx t kd n=some st'):st'.mem=st.mem∧st'.next=st.next∧(st'.ob=true→st.ob=true∧ ∀t,st'.tmp t=st.tmp t):=by
 obtain ⟨env,mem,next,orc,ob⟩:=st;cases orc with
 | nil=>
  obtain rfl:=Ac h
  grind
 | cons o r=>
  unfold St.conc at h;obtain ⟨_,h⟩:=Zv h;obtain rfl:=Ac h;refine ⟨rfl,rfl,fun ho=> ?_⟩;simp only [Ad,Aq] at ho;refine ⟨ho.2,fun k=> ?_⟩;show T.get .undef (T.set .undef env t _) k=T.get .undef env k;rw [T.get_set];split
  ·rename_i e;subst e;rw [←ho.1];exact ht.symm
  ·rfl
theorem y8m {o:Oper} {cx:Ctx} {st st':St} (h:x5a o cx st=some st'):st'.mem=st.mem∧st'.next=st.next∧(st'.ob=true→st.ob=true∧ ∀t,st'.tmp t=st.tmp t):=by
 grind [x5a,x1o]
theorem Vv {ops:Array Oper} {o:Oper} {cx:Ctx} {st st':St} {e:Bool} (h:Ug ops o cx st=some (e,st')): ∃st1,z1h ops o cx st=some (e,st1)∧st'.mem=st1.mem∧st'.next=st1.next∧(st'.ob=true→st1.ob=true∧ ∀t,st'.tmp t=st1.tmp t)∧(Yz o.op=.alloc ∨e=false→st'=st1):=by
 unfold Ug at h;split at h
 ·rename_i st1 h1;split at h
  ·rename_i st2 h2;simp only [Ab,Aa] at h;obtain ⟨rfl,rfl⟩:=h;obtain ⟨c1,c2,c3⟩:=y8m h2;refine ⟨st1,h1,c1,c2,c3,fun hk=> ?_⟩;rcases hk with hk | hk
   ·unfold x5a at h2;split at h2
    ·rename_i ho;rw [ho] at hk;cases hk
    ·rename_i ho;rw [ho] at hk;cases hk
    grind
   ·cases hk
  ·cases h
 grind
theorem Ye {ops:Array Oper} {o:Oper} {cx:Ctx} {st st':St} {e:Bool} (h:Ug ops o cx st=some (e,st')):st'.mem=st.mem∧st'.next=st.next∧(st'.ob=true→st.ob=true∧ ∀t,st'.tmp t=st.tmp t):=by
 grind [Vv,y8h]
theorem Xf {ops:Array Oper} {o:Oper} {cx:Ctx} {st st':St} {e:Bool} (h:Ug ops o cx st=some (e,st')) (ho:st'.ob=true) {tmps:Array Value} (hsz:tmps.size=cx.n)
  (hg: ∀d,Xn ops o=some d→Zj ρ (st.tmp d) (tmps.getD d undef)):Region.wanted o (yielded ops tmps)=e:=by
 obtain ⟨st1,h1,_,_,c3,_⟩:=Vv h;exact y4a h1 (c3 ho).1 hsz hg
structure x8s (P:Program) (cx:Ctx) (o:Oper) (st st':St) (v:AVal):Prop where
 ob:st.ob=true
 does: ∀(ρ:Rho) (a:Act) (w:World) (ev:Operand→AVal),(∀x,x∈o.op.operands→ev x=st.eval x)→Vk ρ ev a.eval o.op→Rel ρ st.mem st.next w→x9a P o a w (z6v ρ cx.floor st st' v w)
 calm:(Yz o.op=.pure ∨Yz o.op=.read)→ ∀(ρ:Rho) (a:Act) (w:World) (ev:Operand→AVal) (mem:Mem) (next:Nat),(∀x,x∈o.op.operands→ev x=st.eval x)→Vk ρ ev a.eval o.op→Rel ρ mem next w→
  (∀t y b ab,o.op=.load t y→y2j o.op ev=some b→Ze st.mem b=some ab→Ze mem b=some ab)→ ∃u,(execOp a.eval o).run P w=.ok (.value u) w∧Zj ρ v u
theorem x0r {op:Op} {ev:Operand→AVal} {x:AVal×Bool} (h:Vb P op ev=some x):Yz op=.pure :=by
 cases op with
 | call c=>
  obtain ⟨callee,args,argTypes⟩:=c;cases callee with
  | builtin b=>cases b <;> first | rfl | (simp [Vb,z3w] at h)
  | value f=>simp [Vb] at h
  | invoke r m=>rfl
 | _=>first | rfl | (simp [Vb] at h;done)
theorem y2q {S:Specs} {R:Runner} (hN:Qa P) (hS:Zk P S) (hRI:y5w R) (hR:ROk P R) {lift:Bool} {o:Oper} {cx:Ctx} {st st':St} (hcx:cx.floor≤st.next) (h:z4j P S R lift o cx st=some st'):
  ∃v stm,stm.put cx o.dst v=some st'∧stm.env=st.env∧Yw cx.floor st stm∧((Yz o.op=.pure ∨Yz o.op=.read)→stm.mem=st.mem∧stm.next=st.next)∧
   (lift=true→Yz o.op=.call → ∀b,b<st.next→wrC S o.op st.eval≠some b→Ze stm.mem b=Ze st.mem b)∧
   (Yz o.op=.chain → ∀b,b<st.next→z9k o.op st.eval≠some b→Ze stm.mem b=Ze st.mem b)∧
   (Yz o.op=.alloc →v=.ptr st.next 0∧ ∃t z,o.op=.alloc t∧Vs P t=some z∧stm=z0h st z t)∧
   (st'.ob=true→x8s P cx o st stm v):=by
 unfold z4j at h;split at h
 ·rename_i v b hp;have hk:=x0r hp;split at h
  ·rename_i st1 h1;obtain ⟨e1,e2,e3,e4⟩:=Yp h1;refine ⟨v,st1,h,e1,Yw.same e2 e3 fun x=>(e4 x).2,fun _=>⟨e2,e3⟩,(fun _ hc=>by grind),(fun hc=>by grind),(fun hc=>by grind),fun ho=> ?_⟩;obtain ⟨_,_,p3,_⟩:=Ys h;rw [p3] at ho;obtain ⟨rfl,ho1⟩:=e4 ho;refine ⟨ho1,fun ρ a w ev hev hr cD=> ?_,fun _ ρ a w ev mem next hev hr cD hag=> ?_⟩
   ·have hr':Vk ρ st.eval a.eval o.op:=fun x hx=>by rw [←hev x hx];exact hr x hx
    obtain ⟨u,hu,cF⟩:=z5u hp rfl hr';exact .inl ⟨ρ,u,w,cF w,hu,by grind,by rw [e2,e3];exact Ev.refl _ _ _ _ _ cD.dom⟩
   ·have hr':Vk ρ st.eval a.eval o.op:=fun x hx=>by rw [←hev x hx];exact hr x hx
    grind [z5u]
  ·cases h
 ·split at h
  ·rename_i v stm he;obtain ⟨dP,cH⟩:=z5z hRI he;refine ⟨v,stm,h,cH,dP,fun hk=> ?_,fun hl hk b hb hw=> ?_,fun hk b hb hn=>y1a hk hb hn he,fun hk=> ?_,fun ho=> ?_⟩
   ·obtain ⟨dst,op,type,pos,after,guard⟩:=o;simp only at hk he;cases op with
    | load t x=>
     simp only [Xy] at he;split at he
     ·rename_i hl;obtain ⟨l1,l2,l3,l4⟩:=Kk hl;simp only [Ag,Aa] at he
      grind [Yp]
     ·cases he
    | call c=>
     obtain ⟨callee,args,argTypes⟩:=c;cases callee with
     | builtin b=>cases b <;> first | (simp [Xy] at he;done) | (simp [Yz] at hk;done)
     | value f=>simp [Yz] at hk
     | invoke r m=>simp [Xy] at he
    | _=>first | (simp [Xy] at he;done) | (simp [Yz] at hk;done)
   ·obtain ⟨dst,op,type,pos,after,guard⟩:=o;simp only at hk he;cases op with
    | call c=>
     obtain ⟨callee,args,argTypes⟩:=c;cases callee with
     | builtin b=>cases b <;> first | (simp [Xy] at he;done) | (simp [Yz] at hk;done)
     | value f=>
      grind [Xy,y1c,wrC]
     | invoke r m=>simp [Xy] at he
    | _=>first | (simp [Xy] at he;done) | (simp [Yz] at hk;done)
   ·obtain ⟨dst,op,type,pos,after,guard⟩:=o;simp only at hk he;cases op with
    | alloc t=>
     simp only [Xy,Ag,Aa] at he
     grind
    | call c=>
     obtain ⟨callee,args,argTypes⟩:=c;cases callee with
     | builtin b=>cases b <;> first | (simp [Xy] at he;done) | (simp [Yz] at hk;done)
     | value f=>simp [Yz] at hk
     | invoke r m=>simp [Xy] at he
    | _=>first | (simp [Xy] at he;done) | (simp [Yz] at hk;done)
   ·obtain ⟨_,_,p3,_⟩:=Ys h;rw [p3] at ho;refine ⟨dP.ob ho,fun ρ a w ev hev hr cD=>z9d hN hS hR hcx he ho hev hr cD,fun hk ρ a w ev mem next hev hr cD hag=> ?_⟩;obtain ⟨dst,op,type,pos,after,guard⟩:=o;simp only at hk he hev hr hag;cases op with
    | load t x=>
     simp only [Xy] at he;split at he
     ·rename_i v' bb st0 hv;obtain ⟨l1,l2,l3,l4⟩:=Kk hv;simp only [Ag,Aa] at he;obtain ⟨st1,h1,rfl,rfl⟩:=he;obtain ⟨_,_,_,e4⟩:=Yp h1;obtain ⟨rfl,hob0⟩:=e4 ho;have hv:=(l4 hob0).1;have hx:x∈(Op.load t x).operands :=(by simp [Op.operands]);have hl:z5y P mem t (ev x)=some (v',true):=by
       rw [hev x hx];have hag': ∀b ab,y2j (.load t x) st.eval=some b→Ze st.mem b=some ab→Ze mem b=some ab:=fun b ab q1 q2=>hag t x b ab rfl (by grind [y2j]) q2;unfold z5y at hv ⊢;split at hv
       ·grind [y2j]
       ·rename_i y hy;unfold y4d at hv ⊢
        grind [y2j]
      obtain ⟨z,hz,cF⟩:=z2r cD hl (hr x hx);simp_all [execOp]
     ·cases he
    | call c=>
     obtain ⟨callee,args,argTypes⟩:=c;cases callee with
     | builtin b=>cases b <;> first | (simp [Xy] at he;done) | (simp [Yz] at hk;done)
     | value f=>simp [Yz] at hk
     | invoke r m=>simp [Xy] at he
    | _=>first | (simp [Xy] at he;done) | (simp [Yz] at hk;done)
  ·cases h
theorem z4h {S:Specs} {R:Runner} {ops:Array Oper} {cx:Ctx} {x:Bool×Oper} {l:List (Bool×Oper)} {st:St}:y4w P S R ops cx (x::l) st=(z7x P S R ops cx x st).bind (y4w P S R ops cx l):=by
 grind [y4w,z7x]
theorem x9a.wp2 {o:Oper} {a:Act} {w:World} {K:Rho→Value→World→Prop} {next:Act→World→Prop} {Q:Exit→Act→World→Prop} (h:x9a P o a w K)
  (hk: ∀ρ' u w',K ρ' u w'→((execOp a.eval o).run P w=.ok (.value u) w'∨ ∀u w',(execOp a.eval o).run P w≠ .ok (.value u) w')→next (a.put o.dst u) w'):o.wp P a w next Q:=by
 unfold Oper.wp;rcases h with ⟨ρ',u,w',e,k⟩ | ⟨ρ',w',e,k⟩ | ⟨f,args,e,hc⟩
 ·have:=hk _ _ _ k (.inl e);rw [e];exact this
 ·have:=hk _ _ _ k (.inr fun u w' e2=>by grind);rw [e];exact this
 ·rw [e];exact hc.mono fun e' w' ⟨ρ',u,he,k⟩=>by
   grind
theorem y6j (m:Mem) (sz:Nat) (zero:List AVal) (ut:TypeDesc) (b o n:Nat) (c:y8u):z7z m sz zero ut (.sl b o n c)=none:=by cases ut <;> rfl
theorem x1r {cx:Ctx} {st:St} {ts:List TypeId} {s:AVal} {b o n:Nat} {c:y8u} {r:List AVal}:Ux P cx st ts (s::.sl b o n c::r)=none:=by
 unfold Ux
 grind [y6j,unN]
theorem y7r {S:Specs} {R:Runner} {lift:Bool} {o:Oper} {cx:Ctx} {st st':St} (h:z4j P S R lift o cx st=some st') (hob:st'.ob=true) {b:Nat} (hk:y3y o.op st.eval st.mem=some b) {a:Act} {w:World} (hr:Vk ρ st.eval a.eval o.op) (cD:Rel ρ st.mem st.next w):
  ∃u w',(execOp a.eval o).run P w=.ok (.value u) w'∧ ∀ab l,Ze st.mem b=some ab→ρ b=some l→Yi ρ w' ab l:=by
 obtain ⟨dst,op,type,pos,after,guard⟩:=o;simp only at hk hr;unfold y3y at hk;split at hk
 ·rename_i args argTypes;have cG:Xj (Zj ρ) (args.toList.map st.eval) (args.map a.eval).toList :=by rw [AW];exact Xj.maps _ _ _ fun x hx=>hr x (by grind [Op.operands,Call.operands])
  have h:(match Ur P cx st argTypes.toList (args.toList.map st.eval) with
   | some (v,st2)=>st2.put cx dst v
   | none=>none)=some st':=h
  split at h
  ·rename_i v st2 h2;have ho2:st2.ob=true:=by
    obtain ⟨_,_,p3,_⟩:=Ys h
    grind
   unfold Ur at h2;rcases Xc h2 with ⟨_,h2⟩ | ⟨hty,h2⟩
   ·cases h2
   rw [Bool.not_eq_false'] at hty;split at hk
   ·rename_i b' sz off len z b2 o2 n2 c2 r he;obtain rfl:=Ac hk;rw [he] at h2 cG;rcases Xc h2 with ⟨_,h2⟩ | ⟨_,h2⟩
    ·rw [x1r] at h2;cases h2
    ·obtain ⟨ρ',u,w',cF,_,hq⟩:=Qi (type:=type) cD h2 ho2 cG (by rw [he] at hty;exact hty);exact ⟨u,w',by simp_all [execOp,resolve,invoke,builtin],fun ab l k1 k2=>hq _ _ _ _ _ _ _ _ rfl k1 k2⟩
   ·rename_i b' off len z b2 o2 n2 c2 r he;split at hk
    ·rename_i blk hm;obtain ⟨hc,hk⟩:=Zv hk;obtain rfl:=Ac hk;simp only [Ad] at hc;rw [he] at h2 cG;rcases Xc h2 with ⟨_,h2⟩ | ⟨_,h2⟩
     ·rw [x1r] at h2;cases h2
     ·obtain ⟨ρ',u,w',cF,_,_,hq⟩:=Uy (type:=type) cD cx.floor h2 cG (by rw [he] at hty;exact hty);refine ⟨u,w',by simp_all [execOp,resolve,invoke,builtin],fun ab l k1 k2=> ?_⟩;rw [hm] at k1;obtain rfl:=Ac k1;exact hq.1 _ _ _ _ _ _ _ _ _ _ _ rfl (Ae hc.2) hm (Af hc.1) k2
    ·cases hk
   ·cases hk
  ·cases h
 ·cases hk
structure x8u (S:Specs) (P:Program) (ops:Array Oper) (cx:Ctx) (x:Bool×Oper) (st st':St):Prop where
 inv:Yw cx.floor st st'
 stay:(Yz x.2.op=.pure ∨Yz x.2.op=.read)→st'.mem=st.mem∧st'.next=st.next
 lift:st'.ob=true→x.1=true→Yz x.2.op=.call → ∀b,b<st.next→wrC S x.2.op st.eval≠some b→Ze st'.mem b=Ze st.mem b
 foot:st'.ob=true→Yz x.2.op=.chain → ∀b,b<st.next→z9k x.2.op st.eval≠some b→Ze st'.mem b=Ze st.mem b
 alloc:Yz x.2.op=.alloc →x.2.guard=none→ ∃t z,x.2.op=.alloc t∧Vs P t=some z∧st'.mem=(z0h st z t).mem ∧st'.next=(z0h st z t).next ∧ ∀d,x.2.dst=some d→st'.tmp d=.ptr st.next 0
 slot: ∀d,x.2.dst=some d→d<cx.n
 other:st'.ob=true→ ∀t,x.2.dst≠some t→st'.tmp t=st.tmp t
 does:st'.ob=true→ ∀(ρ:Rho) (a:Act) (w:World) (ev:Operand→AVal),a.tmps.size=cx.n→(∀y,y∈x.2.op.operands→ev y=st.eval y)→(∀d,Xn ops x.2=some d→Zj ρ (st.tmp d) (a.tmps.getD d undef))→Vk ρ ev a.eval x.2.op→Rel ρ st.mem st.next w→
  ∀(K:Act→World→Prop) (Q:Exit→Act→World→Prop),(∀ρ' u w',(∀d,x.2.dst=some d→Zj ρ' (st'.tmp d) u)→Rel ρ' st'.mem st'.next w'→Ev ρ ρ' cx.floor st.mem st.next st'.mem st'.next w w'→(∀b ab l,y3y x.2.op st.eval st.mem=some b→Ze st.mem b=some ab→ρ b=some l→Yi ρ w' ab l)→K (a.put x.2.dst u) w')→
   if Region.wanted x.2 (yielded ops a.tmps) then x.2.wp P a w K Q else K (a.put x.2.dst undef) w
 calm:st'.ob=true→(Yz x.2.op=.pure ∨Yz x.2.op=.read)→ ∀(ρ:Rho) (a:Act) (w:World) (ev:Operand→AVal) (mem:Mem) (next:Nat),a.tmps.size=cx.n→(∀y,y∈x.2.op.operands→ev y=st.eval y)→(∀d,Xn ops x.2=some d→Zj ρ (st.tmp d) (a.tmps.getD d undef))→Vk ρ ev a.eval x.2.op→Rel ρ mem next w→
  (∀t y b ab,x.2.op=.load t y→y2j x.2.op ev=some b→Ze st.mem b=some ab→Ze mem b=some ab)→ ∀(K:Act→World→Prop) (Q:Exit→Act→World→Prop),(∀u,(∀d,x.2.dst=some d→Zj ρ (st'.tmp d) u)→K (a.put x.2.dst u) w)→
   if Region.wanted x.2 (yielded ops a.tmps) then x.2.wp P a w K Q else K (a.put x.2.dst undef) w
theorem z7a {S:Specs} {R:Runner} (hN:Qa P) (hS:Zk P S) (hRI:y5w R) (hR:ROk P R) {ops:Array Oper} {x:Bool×Oper} {cx:Ctx} {st st':St} (hcx:cx.floor≤st.next) (h:z7x P S R ops cx x st=some st'):
  x8u S P ops cx x st st':=by
 unfold z7x at h;split at h
 ·cases h
 ·rename_i st1 hw;obtain ⟨w1,w2,w3⟩:=Ye hw;obtain ⟨v,stm,hp,cH,dP,hstay,hlift,hfoot,halloc,hdo⟩:=y2q hN hS hRI hR (by grind) h;obtain ⟨p1,p2,p3,p4⟩:=Ys hp;have dI: ∀d,x.2.dst=some d→st'.tmp d=v:=fun d hd=>by
   rcases p4 with ⟨e,_⟩ | ⟨d',e,_,he⟩
   ·grind
   ·rw [hd] at e;obtain rfl:=Ac e;show T.get .undef st'.env d=v;rw [he,T.get_set,Av rfl]
  have hi1:Yw cx.floor st st1:=Yw.same w1 w2 fun ho=>(w3 ho).1;have hi2:Yw cx.floor stm st':=Yw.same p1 p2 fun ho=>by grind
  refine ⟨(hi1.trans dP).trans hi2,fun hk=> ?_,fun ho hl hk b hb hn=> ?_,fun ho hk b hb hn=> ?_,fun hk hg=> ?_,fun d hd=> ?_,fun ho t ht=> ?_,fun ho ρ a w ev hsz hev hgr hr cD K Q hK=> ?_,fun ho hk ρ a w ev mem next hsz hev hgr hr cD hag K Q hK=> ?_⟩
  ·grind
  ·have ho1:st1.ob=true:=dP.ob (by grind);have cV:st1.eval=st.eval:=by
    funext y
    cases y with
    | tmp t=>exact (w3 ho1).2 t
    | _=>rfl
   grind
  ·have ho1:st1.ob=true:=dP.ob (by grind);have cV:st1.eval=st.eval:=by
    funext y
    cases y with
    | tmp t=>exact (w3 ho1).2 t
    | _=>rfl
   grind
  ·grind [Vv,z1h]
  ·grind
  ·have ho1:st1.ob=true:=dP.ob (by grind);rw [←(w3 ho1).2 t];show T.get .undef st'.env t=T.get .undef st1.env t
   grind [T.get_set]
  ·have ho1:st1.ob=true:=dP.ob (by grind);have cV:=(w3 ho1).2;have dL: ∀y,st1.eval y=st.eval y:=fun y=>by cases y <;> first | rfl | exact cV _
   rw [Xf hw ho1 hsz hgr,Av rfl];refine ((hdo ho).does ρ a w ev (fun y hy=>by grind) hr (by grind)).wp2 fun ρ' u w' hpost cF=> ?_;have he:=hpost.ev;rw [w1,w2] at he;refine hK ρ' u w' (fun d hd=>by rw [dI d hd];exact hpost.val) (by rw [p1,p2];exact hpost.rel) (by grind) fun b ab l k1 k2 k3=> ?_;have hr':Vk ρ st1.eval a.eval x.2.op:=fun y hy=>by rw [dL y,←hev y hy];exact hr y hy
   have e1:st1.eval=st.eval:=funext dL
   grind [y7r]
  ·have ho1:st1.ob=true:=dP.ob (by grind);have cV:=(w3 ho1).2;have dL: ∀y,st1.eval y=st.eval y:=fun y=>by cases y <;> first | rfl | exact cV _
   rw [Xf hw ho1 hsz hgr,Av rfl];obtain ⟨u,cF,hu⟩:=(hdo ho).calm hk ρ a w ev mem next (fun y hy=>by grind) hr cD (fun t y b ab q1 q2 q3=>hag t y b ab q1 q2 (by grind))
   unfold Oper.wp;rw [cF];exact hK u fun d hd=>by grind
 ·rename_i st1 hw;obtain ⟨w1,w2,w3⟩:=Ye hw;obtain ⟨p1,p2,p3,p4⟩:=Ys h;have dI: ∀d,x.2.dst=some d→st'.tmp d=.tup []:=fun d hd=>by
   rcases p4 with ⟨e,_⟩ | ⟨d',e,_,he⟩
   ·grind
   ·rw [hd] at e;obtain rfl:=Ac e;show T.get .undef st'.env d=.tup [];rw [he,T.get_set,Av rfl]
  refine ⟨Yw.same (p1.trans w1) (p2.trans w2) fun ho=>(w3 (by grind)).1,fun _=>⟨p1.trans w1,p2.trans w2⟩,fun _ _ _ b _ _=>by rw [p1,w1],fun _ _ b _ _=>by rw [p1,w1],fun hk hg=> ?_,fun d hd=> ?_,fun ho t ht=> ?_,fun ho ρ a w ev hsz hev hgr hr cD K Q hK=> ?_,fun ho hk ρ a w ev mem next hsz hev hgr hr cD hag K Q hK=> ?_⟩
  ·grind [Vv,z1h]
  ·grind
  ·rw [←(w3 (by grind)).2 t];show T.get .undef st'.env t=T.get .undef st1.env t
   grind [T.get_set]
  ·have ho1:st1.ob=true:=by grind
   rw [Xf hw ho1 hsz hgr,As (by simp)];refine hK ρ undef w (fun d hd=>by rw [dI d hd];exact .tup [] #[] rfl fun i h1 _=>by simp at h1) ?_ ?_ fun b ab l _ k2 k3=>cD.blk b l ab k3 k2
   ·grind
   ·rw [p1,p2,w1,w2];exact Ev.refl _ _ _ _ _ cD.dom
  ·have ho1:st1.ob=true:=by grind
   rw [Xf hw ho1 hsz hgr,As (by simp)];exact hK undef fun d hd=>by rw [dI d hd];exact .tup [] #[] rfl fun i h1 _=>by simp at h1
def Fin (D:List Deferred) (ρ:Rho) (cx:Ctx) (st st':St) (w:World):Exit→Act→World→Prop:=fun e a' w'=>
 e=.normal ∧a'.defers=D∧ ∃ρ',Xz ρ' st'.env cx.n a'.tmps∧Rel ρ' st'.mem st'.next w'∧Ev ρ ρ' cx.floor st.mem st.next st'.mem st'.next w w'
def x3c (ρ:Rho) (k:Nat) (o:Obj):Rho:=⟨ρ.f,fun j=>if j=k then some o else ρ.fz j,ρ.lp⟩
theorem z8e {k:Nat} {o:Obj} (h:ρ.fz k=none):ρ.le (x3c ρ k o):=
 ⟨fun _ _ e=>e,fun j o' e=>by
  show (if j=k then some o else ρ.fz j)=some o'
  grind,fun _ _ e=>e⟩
theorem Rel.froze {mem:Mem} {next:Nat} {w:World} (h:Rel ρ mem next w) (vs:Array Value) (el:TypeId):
  Rel (x3c ρ w.heap.size (.cells vs el)) mem next {w with heap:=w.heap.push (.cells vs el)}:=by
 have hle:=z8e (o:=.cells vs el) (h.hold w.heap.size (Aj _));have push: ∀k,k<w.heap.size→(w.heap.push (.cells vs el))[k]? =w.heap[k]? :=fun k hk=>by
  grind
 refine ⟨h.dom,h.inj,fun b l ab e hm=> ?_,fun k o e=> ?_,fun b l e hs=> ?_,fun b l e=> ?_,h.bd,h.ldom.1,h.ldom.2.mono hle.2.1⟩
 ·exact (h.blk b l ab e hm).world hle (push _ (h.real b l e))
 ·have e:(if k=w.heap.size then some (.cells vs el) else ρ.fz k)=some o:=e;show (w.heap.push (.cells vs el))[k]? =some o;by_cases hk:k=w.heap.size
  ·grind
  ·rw [As hk] at e;have:=h.old k o e
   grind
 ·have:=h.real b l e;show (if l.blk=w.heap.size then _ else ρ.fz l.blk)=none;rw [As (by omega)];exact h.sep b l e hs
 ·have:=h.real b l e
  grind
theorem Ev.froze {mem:Mem} {next:Nat} {w:World} (h:Rel ρ mem next w) (floor:Nat) (m:Mem) (vs:Array Value) (el:TypeId):
  Ev ρ (x3c ρ w.heap.size (.cells vs el)) floor m next m next w {w with heap:=w.heap.push (.cells vs el)}:=by
 have hle:=z8e (o:=.cells vs el) (h.hold w.heap.size (Aj _));refine ⟨hle,fun _ _=>rfl,Aj _,fun _ _ _ _ _ q=>q,fun k o q _=> ?_,fun b l hb hl=> ?_,?_,rfl,rfl,rfl,fun k hk=> ?_⟩
 ·grind
 ·have:=h.dom b l hl;omega
 ·grind
 ·show (if k=w.heap.size then _ else ρ.fz k)=ρ.fz k
  grind
theorem y4e {w:World} {t:TypeId} {len:Nat} {ps:List (Nat×AVal)} {qs:List (Nat×Value)} {v:AVal} (hb:x8q P t len ps=some v) (hp:Us ρ ps qs) (hf:ρ.fz w.heap.size=none):
  ∃u vs el,(Instr.buildSlice t len qs.toArray).run P w=.ok u {w with heap:=w.heap.push (.cells vs el)}∧Zj (x3c ρ w.heap.size (.cells vs el)) v u:=by
 unfold x8q at hb;split at hb
 ·rename_i e hu;split at hb
  ·rename_i i zero hi hz;obtain ⟨hc,hb⟩:=Zv hb;simp only [Ad] at hc;obtain ⟨⟨hl1,hs1⟩,hle,hzl⟩:=hc;have hl1:=Ae hl1;have hs1:=Ae hs1;have hle:=Ae hle;have hzl:=Af hzl;split at hb
   ·rename_i cells cN;obtain ⟨hc,hb⟩:=Zv hb;simp only [Ad] at hc;obtain ⟨hn,hpf⟩:=hc;have hn:=Af hn;obtain rfl:=Ac hb;obtain ⟨_,z,_,_,hzr,hzv⟩:=Yf (ρ:=ρ) hz;have dG:=z1o hzr len (len*i.size) (by rw [hzl]);obtain ⟨arr,h1,h2⟩:=Vc cN dG hp;have hsz:arr.size=len*i.size:=(by rw [←h2.1,hn]);have hgt': ¬2 ^ 24<len*i.size:=(by omega);have hpos:0<len*i.size:=Nat.mul_pos (by omega) (by omega);have h0: ¬len*i.size=0:=(by omega);refine ⟨.slice (some ⟨w.heap.size,0,none⟩) len len,arr,e,?_,?_⟩
    ·have hsz0: ¬i.size=0:=(by omega);simp [Instr.buildSlice,run_underlying hu,Zu hi,h0,hsz0,hzv,h1,newRow,hgt']
    ·have hin: ∀a b,a<len→b<i.size→a*i.size+b<cells.length:=fun a b ha hb=>by
      have:(a+1)*i.size≤len*i.size:=At _ ha
      grind
     have cJ: ∀a,a<len→((cells.drop (a*i.size)).take i.size).length =i.size:=fun a ha=>by
      have:(a+1)*i.size≤len*i.size:=At _ ha
      grind
     refine .dat len _ w.heap.size 0 i.size len (fun a b=>arr.getD (a*i.size+b) undef) (Aj _) (fun a ha=>cJ a ha) (fun a b ha hb=> ?_) (fun a b ha hb=> ?_)
     ·have hb':b<i.size:=(by grind);have h3:=hin a b ha hb';have e1:((cells.drop (a*i.size)).take i.size)[b]=cells[a*i.size+b]:=by
       grind
      rw [e1];have h4:a*i.size+b<arr.size:=(by grind);have e2:arr.getD (a*i.size+b) undef=arr[a*i.size+b]:=(by simp [h4]);rw [e2];have h5:=We 6 _ _ (Aw.1 hpf _ (AE h3)) (h2.2 _ h3 h4);exact h5.mono (z8e (o:=.cells arr e) hf).bare
     ·have h3:=hin a b ha hb;have h4:a*i.size+b<arr.size:=(by grind);refine ⟨arr,e,(0,0),?_,?_⟩
      ·show (if w.heap.size=w.heap.size then some (Obj.cells arr e) else _)=_
       grind
      ·simp [h4]
   ·cases hb
  ·cases hb
 ·cases hb
structure x5b (S:Specs) (z:Nat) (P:Program) (ops:Array Oper) (cx:Ctx) (x:Bool×Oper) (st st':St):Prop where
 inv:Yw cx.floor st st'
 stay:(Yv z x.2.op=.pure ∨Yv z x.2.op=.read ∨Yv z x.2.op=.lit)→st'.mem=st.mem∧st'.next=st.next
 lift:st'.ob=true→x.1=true→Yv z x.2.op=.call → ∀b,b<st.next→wrC S x.2.op st.eval≠some b→Ze st'.mem b=Ze st.mem b
 foot:st'.ob=true→Yv z x.2.op=.chain → ∀b,b<st.next→z9k x.2.op st.eval≠some b→Ze st'.mem b=Ze st.mem b
 fresh:st'.ob=true→(Yv z x.2.op=.alloc ∨Yv z x.2.op=.birth)→x.2.guard=none→ ∃cells ty,st'.mem=Ya st.mem st.next (some ⟨cells,ty,none⟩)∧st'.next=st.next+1∧
  ∀(ρ:Rho) (a:Act) (w:World) (ev:Operand→AVal),(∀y,y∈x.2.op.operands→ev y=st.eval y)→Vk ρ ev a.eval x.2.op→
   ∃u vs el,el=ty∧Xm ρ cells vs∧(execOp a.eval x.2).run P w=.ok (.value u) {w with heap:=w.heap.push (.cells vs el)}∧ ∀ρ':Rho,ρ' st.next=some ⟨w.heap.size,0,cells.length,vs.size⟩→ ∀d,x.2.dst=some d→Zj ρ' (st'.tmp d) u
 slot: ∀d,x.2.dst=some d→d<cx.n
 other:st'.ob=true→ ∀t,x.2.dst≠some t→st'.tmp t=st.tmp t
 does:st'.ob=true→(Yv z x.2.op=.chain ∨Yv z x.2.op=.call)→ ∀(ρ:Rho) (a:Act) (w:World) (ev:Operand→AVal),a.tmps.size=cx.n→(∀y,y∈x.2.op.operands→ev y=st.eval y)→(∀d,Xn ops x.2=some d→Zj ρ (st.tmp d) (a.tmps.getD d undef))→Vk ρ ev a.eval x.2.op→Rel ρ st.mem st.next w→
  ∀(K:Act→World→Prop) (Q:Exit→Act→World→Prop),(∀ρ' u w',(∀d,x.2.dst=some d→Zj ρ' (st'.tmp d) u)→Rel ρ' st'.mem st'.next w'→Ev ρ ρ' cx.floor st.mem st.next st'.mem st'.next w w'→(∀b ab l,y3y x.2.op st.eval st.mem=some b→Ze st.mem b=some ab→ρ b=some l→Yi ρ w' ab l)→K (a.put x.2.dst u) w')→
   if Region.wanted x.2 (yielded ops a.tmps) then x.2.wp P a w K Q else K (a.put x.2.dst undef) w
 calm:st'.ob=true→(Yv z x.2.op=.pure ∨Yv z x.2.op=.read)→ ∀(ρ:Rho) (a:Act) (w:World) (ev:Operand→AVal) (mem:Mem) (next:Nat),a.tmps.size=cx.n→(∀y,y∈x.2.op.operands→ev y=st.eval y)→(∀d,Xn ops x.2=some d→Zj ρ (st.tmp d) (a.tmps.getD d undef))→Vk ρ ev a.eval x.2.op→Rel ρ mem next w→
  (∀t y b ab,x.2.op=.load t y→y2j x.2.op ev=some b→Ze st.mem b=some ab→Ze mem b=some ab)→ ∀(K:Act→World→Prop) (Q:Exit→Act→World→Prop),(∀u,(∀d,x.2.dst=some d→Zj ρ (st'.tmp d) u)→K (a.put x.2.dst u) w)→
   if Region.wanted x.2 (yielded ops a.tmps) then x.2.wp P a w K Q else K (a.put x.2.dst undef) w
 lit:st'.ob=true→Yv z x.2.op=.lit → ∀(ρ:Rho) (a:Act) (w:World) (ev:Operand→AVal) (mem:Mem) (next:Nat),a.tmps.size=cx.n→(∀y,y∈x.2.op.operands→ev y=st.eval y)→(∀d,Xn ops x.2=some d→Zj ρ (st.tmp d) (a.tmps.getD d undef))→Vk ρ ev a.eval x.2.op→Rel ρ mem next w→
  ∀(K:Act→World→Prop) (Q:Exit→Act→World→Prop),(∀ρ' u w',(∀d,x.2.dst=some d→Zj ρ' (st'.tmp d) u)→Rel ρ' mem next w'→(∀b,ρ' b=ρ b)→(∀floor m,Ev ρ ρ' floor m next m next w w')→K (a.put x.2.dst u) w')→
   if Region.wanted x.2 (yielded ops a.tmps) then x.2.wp P a w K Q else K (a.put x.2.dst undef) w
theorem x0s {z:Nat} {op:Op} (h:y3g z op=false) (h2:isBirth z op=false):Yv z op=Yz op:=by unfold Yv;grind
theorem x1s {o:Oper} {t:TypeId} {z:List AVal} (ho:o.op=.alloc t) (hz:Vs P t=some z) (a:Act) (w:World):
  ∃vs:Array Value,Xm ρ z vs∧(execOp a.eval o).run P w=.ok (.value (.pointer (some ⟨w.heap.size,0,none⟩))) {w with heap:=w.heap.push (.cells vs t)}:=by
 obtain ⟨dst,op,type,pos,after,guard⟩:=o;simp only at ho;subst ho;obtain ⟨_,zv,_,_,hzr,hzv⟩:=Yf (ρ:=ρ) hz;exact ⟨zv.cells,hzr,by simp_all [execOp,Instr.alloc,newVar,newRow]⟩
theorem z9e {w:World} {t:TypeId} {len:Nat} {ps:List (Nat×AVal)} {qs:List (Nat×Value)} {cells:List AVal} {e:TypeId} {sz:Nat} (hb:y4k P t len ps=some (cells,e,sz)) (hp:Us ρ ps qs):
  ∃vs el,el=e∧Xm ρ cells vs∧(Instr.buildSlice t len qs.toArray).run P w=.ok (.slice (some ⟨w.heap.size,0,none⟩) len len) {w with heap:=w.heap.push (.cells vs el)}∧cells.length=len*sz∧vs.size=len*sz:=by
 unfold y4k at hb;split at hb
 ·rename_i e hu;split at hb
  ·rename_i i zero hi hz;obtain ⟨hc,hb⟩:=Zv hb;simp only [Ad] at hc;obtain ⟨⟨hl1,hs1⟩,hle,hzl⟩:=hc;have hl1:=Ae hl1;have hs1:=Ae hs1;have hle:=Ae hle;have hzl:=Af hzl;split at hb
   ·rename_i cells cN;obtain ⟨hn,hb⟩:=Zv hb;have hn:=Af hn;simp only [Ab,Aa] at hb;obtain ⟨rfl,rfl,rfl⟩:=hb;obtain ⟨_,z,_,_,hzr,hzv⟩:=Yf (ρ:=ρ) hz;have dG:=z1o hzr len (len*i.size) (by rw [hzl]);obtain ⟨arr,h1,h2⟩:=Vc cN dG hp;have hsz:arr.size=len*i.size:=(by rw [←h2.1,hn]);have hgt': ¬2 ^ 24<len*i.size:=(by omega);have hpos:0<len*i.size:=Nat.mul_pos (by omega) (by omega);have h0: ¬len*i.size=0:=(by omega);have hsz0: ¬i.size=0:=(by omega);exact ⟨arr,e,rfl,h2,by simp [Instr.buildSlice,run_underlying hu,Zu hi,h0,hsz0,hzv,h1,newRow,hgt'],hn,hsz⟩
   ·cases hb
  ·cases hb
 ·cases hb
theorem z7l (op:Op):Yz op≠ .lit :=by
 cases op with
 | call c=>
  obtain ⟨callee,args,argTypes⟩:=c;cases callee with
  | builtin b=>cases b <;> exact fun h=>by cases h
  | value f=>exact fun h=>by cases h
  | invoke r m=>exact fun h=>by cases h
 | _=>exact fun h=>by cases h
theorem z2q (op:Op):Yz op≠ .birth :=by
 cases op with
 | call c=>
  obtain ⟨callee,args,argTypes⟩:=c;cases callee with
  | builtin b=>cases b <;> exact fun h=>by cases h
  | value f=>exact fun h=>by cases h
  | invoke r m=>exact fun h=>by cases h
 | _=>exact fun h=>by cases h
theorem y6g {S:Specs} {R:Runner} (hN:Qa P) (hS:Zk P S) (hRI:y5w R) (hR:ROk P R) {z:Nat} {ops:Array Oper} {x:Bool×Oper} {cx:Ctx} {st st':St} (hcx:cx.floor≤st.next) (h:y1r z P S R ops cx x st=some st'):
  x5b S z P ops cx x st st':=by
 unfold y1r at h;cases hz:y3g z x.2.op with
 | false=>
  rw [hz,Ai] at h;cases hz2:isBirth z x.2.op with
  | false=>
   rw [hz2,Ai] at h;have s:=z7a hN hS hRI hR hcx h;have hk:=x0s hz hz2;refine ⟨s.inv,fun k=> ?_,?_,?_,?_,s.slot,s.other,fun ho _=>s.does ho,fun ho k=>s.calm ho (by grind),fun _ k=> ?_⟩
   ·rw [hk] at k;rcases k with k | k | k
    ·exact s.stay (.inl k)
    ·exact s.stay (.inr k)
    ·exact absurd k (z7l _)
   ·rw [hk];exact s.lift
   ·rw [hk];exact s.foot
   ·intro _ k hg;have k:Yz x.2.op=.alloc :=by
     grind [z2q]
    obtain ⟨t,z0,e1,e2,e3,e4,e5⟩:=s.alloc k hg;refine ⟨z0,t,e3,e4,fun ρ a w ev _ _=> ?_⟩;obtain ⟨vs,hvs,cF⟩:=x1s (P:=P) (ρ:=ρ) e1 e2 a w;exact ⟨_,vs,t,rfl,hvs,cF,fun ρ' hρ d hd=>by rw [e5 d hd];exact .ptr _ 0 _ hρ⟩
   grind [z7l]
  | true=>
   rw [hz2,Ap] at h;have hk:Yv z x.2.op=.birth :=by unfold Yv;grind
   obtain ⟨lf,o⟩:=x;obtain ⟨dst,op,type,pos,after,guard⟩:=o;simp only at h hz hz2 hk ⊢;cases op with
   | buildSlice t len parts=>
    split at h
    ·cases h
    ·rename_i st1 hw;obtain ⟨w1,w2,w3⟩:=Ye hw;unfold z5r at h;simp only at h;split at h
     ·rename_i cells e sz hv;obtain ⟨p1,p2,p3,p4⟩:=Ys h;have dI: ∀d,dst=some d→st'.tmp d=.sl st1.next 0 len (bif cx.sym then .un sz else .ex len):=fun d hd=>by
       rcases p4 with ⟨e,_⟩ | ⟨d',e,_,he⟩
       ·grind
       ·rw [hd] at e;obtain rfl:=Ac e;show T.get .undef st'.env d=_;rw [he,T.get_set,Av rfl]
      have hi1:Yw cx.floor st st1:=Yw.same w1 w2 fun ho=>(w3 ho).1;have hi2:Yw cx.floor (z0h st1 cells e) st':=Yw.same p1 p2 fun ho=>by grind
      obtain ⟨env1,mem1,next1,orc1,ob1⟩:=st1;simp only [z0h] at p1 p2 p3 p4;simp only at w1 w2 dI;refine ⟨(hi1.trans (Yw.new _ _ _)).trans hi2,(fun k=>by grind),(fun _ _ k=>by grind),(fun _ k=>by grind),fun ho _ _=> ?_,fun d hd=> ?_,fun ho t ht=> ?_,(fun _ k=>by grind),(fun _ k=>by grind),(fun _ k=>by grind)⟩
      ·have ho1:ob1=true:=(by grind);have cV:=(w3 ho1).2;refine ⟨cells,e,by grind,by rw [p2,w2],fun ρ a w ev hev hr=> ?_⟩;have dL: ∀y,St.eval ⟨env1,mem1,next1,orc1,ob1⟩ y=st.eval y:=fun y=>by cases y <;> first | rfl | exact cV _
       have hpr:Us ρ (parts.toList.map fun p=>(p.1,St.eval ⟨env1,mem1,next1,orc1,ob1⟩ p.2)) (parts.toList.map fun p=>(p.1,a.eval p.2)):=Jr parts.toList fun p hp=>by have hm:p.2∈(Op.buildSlice t len parts).operands :=(by grind [Op.operands]);rw [dL p.2,←hev p.2 hm];exact hr p.2 hm
       obtain ⟨vs,el,hel,hvs,cF,hn1,hn2⟩:=z9e (w:=w) hv hpr;have hpa:(parts.map fun (i,x)=>(i,a.eval x))=(parts.toList.map fun p=>(p.1,a.eval p.2)).toArray :=by
        grind
       refine ⟨.slice (some ⟨w.heap.size,0,none⟩) len len,vs,el,hel,hvs,by simp [execOp,hpa,cF],fun ρ' hρ d hd=> ?_⟩;rw [dI d hd,w2];refine .sl _ 0 len _ ⟨w.heap.size,0,cells.length,vs.size⟩ len hρ ?_ (Aj _);cases cx.sym with
       | true=>exact ⟨by grind,by grind⟩
       | false=>exact rfl
      ·grind
      ·have ho1:ob1=true:=(by grind);rw [←(w3 ho1).2 t];show T.get .undef st'.env t=T.get .undef env1 t
       grind [T.get_set]
     ·cases h
    ·rename_i st1 hw;obtain ⟨w1,w2,w3⟩:=Ye hw;obtain ⟨p1,p2,p3,p4⟩:=Ys h;have hi1:Yw cx.floor st st1:=Yw.same w1 w2 fun ho=>(w3 ho).1;have hi2:Yw cx.floor st1 st':=Yw.same p1 p2 fun ho=>by grind
     refine ⟨hi1.trans hi2,(fun k=>by grind),(fun _ _ k=>by grind),(fun _ k=>by grind),fun _ _ hg=> ?_,fun d hd=> ?_,fun ho t ht=> ?_,(fun _ k=>by grind),(fun _ k=>by grind),(fun _ k=>by grind)⟩
     ·grind [Vv,z1h]
     ·grind
     ·have ho1:st1.ob=true:=(by grind);rw [←(w3 ho1).2 t];show T.get .undef st'.env t=T.get .undef st1.env t
      grind [T.get_set]
   | _=>cases hz2
 | true=>
  rw [hz,Ap] at h;have hk:Yv z x.2.op=.lit :=by unfold Yv;rw [hz];rfl
  obtain ⟨lf,o⟩:=x;obtain ⟨dst,op,type,pos,after,guard⟩:=o;simp only at h hz hk ⊢;cases op with
  | buildSlice t len parts=>
   split at h
   ·cases h
   ·rename_i st1 hw;obtain ⟨w1,w2,w3⟩:=Ye hw;unfold y2w at h;simp only at h;split at h
    ·rename_i v hv;obtain ⟨p1,p2,p3,p4⟩:=Ys h;have dI: ∀d,dst=some d→st'.tmp d=v:=fun d hd=>by
      rcases p4 with ⟨e,_⟩ | ⟨d',e,_,he⟩
      ·grind
      ·rw [hd] at e;obtain rfl:=Ac e;show T.get .undef st'.env d=v;rw [he,T.get_set,Av rfl]
     have hi1:Yw cx.floor st st1:=Yw.same w1 w2 fun ho=>(w3 ho).1;have hi2:Yw cx.floor st1 st':=Yw.same p1 p2 fun ho=>by grind
     refine ⟨hi1.trans hi2,fun _=>⟨p1.trans w1,p2.trans w2⟩,(fun _ _ k=>by grind),(fun _ k=>by grind),(fun _ k=>by grind),fun d hd=> ?_,fun ho t ht=> ?_,(fun _ k=>by grind),(fun _ k=>by grind),fun ho _ ρ a w ev mem next hsz hev hgr hr cD K Q hK=> ?_⟩
     ·grind
     ·have ho1:st1.ob=true:=(by grind);rw [←(w3 ho1).2 t];show T.get .undef st'.env t=T.get .undef st1.env t
      grind [T.get_set]
     ·have ho1:st1.ob=true:=(by grind);have cV:=(w3 ho1).2;have dL: ∀y,st1.eval y=st.eval y:=fun y=>by cases y <;> first | rfl | exact cV _
      rw [Xf hw ho1 hsz hgr,Av rfl];have hpr:Us ρ (parts.toList.map fun p=>(p.1,st1.eval p.2)) (parts.toList.map fun p=>(p.1,a.eval p.2)):=Jr parts.toList fun p hp=>by have hm:p.2∈(Op.buildSlice t len parts).operands :=(by grind [Op.operands]);rw [dL p.2,←hev p.2 hm];exact hr p.2 hm
      obtain ⟨u,vs,el,cF,hu⟩:=y4e hv hpr (cD.hold w.heap.size (Aj _));have:(parts.map fun (i,x)=>(i,a.eval x))=(parts.toList.map fun p=>(p.1,a.eval p.2)).toArray :=by
       grind
      unfold Oper.wp;have hrun':(execOp a.eval ⟨dst,.buildSlice t len parts,type,pos,after,guard⟩).run P w=.ok (.value u) {w with heap:=w.heap.push (.cells vs el)}:=by simp [execOp,this,cF]
      rw [hrun'];exact hK _ u _ (fun d hd=>by grind) (cD.froze vs el) (fun _=>rfl) fun floor m=>Ev.froze cD floor m vs el
    ·cases h
   ·rename_i st1 hw;obtain ⟨w1,w2,w3⟩:=Ye hw;obtain ⟨p1,p2,p3,p4⟩:=Ys h;have dI: ∀d,dst=some d→st'.tmp d=.tup []:=fun d hd=>by
     rcases p4 with ⟨e,_⟩ | ⟨d',e,_,he⟩
     ·grind
     ·rw [hd] at e;obtain rfl:=Ac e;show T.get .undef st'.env d=_;rw [he,T.get_set,Av rfl]
    have hi1:Yw cx.floor st st1:=Yw.same w1 w2 fun ho=>(w3 ho).1;have hi2:Yw cx.floor st1 st':=Yw.same p1 p2 fun ho=>by grind
    refine ⟨hi1.trans hi2,fun _=>⟨p1.trans w1,p2.trans w2⟩,(fun _ _ k=>by grind),(fun _ k=>by grind),(fun _ k=>by grind),fun d hd=> ?_,fun ho t ht=> ?_,(fun _ k=>by grind),(fun _ k=>by grind),fun ho _ ρ a w ev mem next hsz hev hgr hr cD K Q hK=> ?_⟩
    ·grind
    ·have ho1:st1.ob=true:=(by grind);rw [←(w3 ho1).2 t];show T.get .undef st'.env t=T.get .undef st1.env t
     grind [T.get_set]
    ·have ho1:st1.ob=true:=(by grind);rw [Xf hw ho1 hsz hgr,As Bool.false_ne_true];exact hK ρ undef w (fun d hd=>by rw [dI d hd];exact .tup [] #[] rfl fun i h1 _=>by simp at h1) cD (fun _=>rfl) fun floor m=>Ev.refl _ _ _ _ _ cD.dom
  | _=>cases hz
end
section
variable {ops:Array Oper}
def z1l (ops:Array Oper) (S:Nat→Bool):Prop:= ∀j o,ops[j]? =some o→S j=true→ ∀e∈o.after.toList,Region.binds .any e=true→S e.on=true
def z9i (S:Nat→Bool) (o:Oper):Prop:= ∀e∈o.after.toList,Region.binds .any e=true→S e.on=true
def z2u (ops:Array Oper) (i:Nat) (o:Oper):Prop:= ∀S,z1l ops S→z9i S o→S i=true
theorem y0q (acc:List Nat) (i:Nat): ∀(es:List Edge) (s:Nat),(es.foldl (fun s e=>bif Region.binds .any e then s||| (2 ^ e.on)||| acc.getD e.on 0 else s) s).testBit i=true→
  s.testBit i=true∨ ∃e∈es,Region.binds .any e=true∧(e.on=i∨(acc.getD e.on 0).testBit i=true)
 | [],s,h=>.inl h
 | e::es,s,h=>by
  simp only [List.foldl_cons] at h;rcases y0q acc i es _ h with h | ⟨e',he',h1,h2⟩;all_goals grind
theorem y0u (dQ: ∀(j:Nat) o,ops[j]? =some o→ ∀e∈o.after.toList,Region.binds .any e=true→e.on<j): ∀(l:List Oper) (acc:List Nat),acc.length+l.length=ops.size→(∀k,l[k]? =ops[acc.length+k]?)→
  (∀k o,k<acc.length→ops[k]? =some o→ ∀i,(acc.getD k 0).testBit i=true→i<k∧z2u ops i o)→
  ∀k o,ops[k]? =some o→ ∀i,((y8f l acc).getD k 0).testBit i=true→i<k∧z2u ops i o
 | [],acc,cE,_,hacc,k,o,ho,i,h=>by have hk:k<ops.size:=(Ar.1 ho).1;simp at cE;exact hacc k o (by omega) ho i h
 | x::l,acc,cE,hl,hacc,k,o,ho,i,h=>by
  unfold y8f at h;refine y0u dQ l (acc++[x.after.toList.foldl (fun s e=>bif Region.binds .any e then s||| (2 ^ e.on)||| acc.getD e.on 0 else s) 0]) (by grind) (fun k=>by
   have:=hl (k+1)
   simpa [AI,Nat.add_comm 1 k] using this) (fun k' o' hk' ho' i' hi'=> ?_) k o ho i h
  by_cases hlt:k'<acc.length
  ·refine hacc k' o' hlt ho' i' ?_
   grind
  ·have hk2:k'=acc.length:=by grind
   subst hk2;have hx:ops[acc.length]? =some x:=by simpa using (hl 0).symm
   rw [hx] at ho';obtain rfl:=Ac ho';have hg:(acc++[x.after.toList.foldl (fun s e=>bif Region.binds .any e then s||| (2 ^ e.on)||| acc.getD e.on 0 else s) 0]).getD acc.length 0=x.after.toList.foldl (fun s e=>bif Region.binds .any e then s||| (2 ^ e.on)||| acc.getD e.on 0 else s) 0:=by
    grind
   rw [hg] at hi';rcases y0q acc i' _ _ hi' with h0 | ⟨e,he,hb,h1⟩
   ·simp at h0
   ·have hlt':=dQ _ _ hx e he hb;rcases h1 with rfl | h1
    ·exact ⟨hlt',fun S _ hr=>hr e he hb⟩
    ·have ho2:ops[e.on]? =some (ops[e.on]'(by grind)):=(by simp);obtain ⟨q1,q2⟩:=hacc e.on _ hlt' ho2 i' h1;exact ⟨by omega,fun S hc hr=>q2 S hc fun e' he' hb'=>hc e.on _ ho2 (hr e he hb) e' he' hb'⟩
theorem z8p {z:Nat} {op:Op} {k:Kind} (hk:k≠ .lit) (hb:k≠ .birth):Yv z op=k↔Yz op=k∧y3g z op=false∧isBirth z op=false:=by
 grind [Yv]
theorem y3f {z:Nat} {op:Op} (h:y3g z op=true):Yz op=.chain :=by
 cases op <;> first | rfl | (cases h;done)
theorem z8q {z:Nat} {op:Op} (h:isBirth z op=true):Yz op=.chain :=by
 cases op <;> first | rfl | (cases h;done)
theorem y0h {z:Nat} {op:Op} {k:Kind} (hk:k≠ .lit) (hb:k≠ .birth) (hc:k≠ .chain):Yv z op=k↔Yz op=k:=by
 rw [z8p hk hb]
 grind [y3f,z8q]
theorem Ky {z:Nat} {op:Op}:Yv z op=.alloc ↔Yz op=.alloc :=y0h (fun h=>by cases h) (fun h=>by cases h) fun h=>by cases h
theorem z7k {z:Nat} {op:Op}:Yv z op=.read ↔Yz op=.read :=y0h (fun h=>by cases h) (fun h=>by cases h) fun h=>by cases h
theorem z4x {z:Nat} {op:Op} (h:Yv z op=.birth):isBirth z op=true:=by
 grind [Yv,z2q]
structure x2c (z:Nat) (ops:Array Oper):Prop where
 ord: ∀(j:Nat) o,ops[j]? =some o→ ∀e∈o.after.toList,Region.binds .any e=true→e.on<j
 guard: ∀(j:Nat) o,ops[j]? =some o→(Yv z o.op=.alloc ∨Yv z o.op=.birth)→o.guard=none
 bits: ∀(j:Nat) o,ops[j]? =some o→ ∀i,((y8f ops.toList []).getD j 0).testBit i=true→i<j∧z2u ops i o
 pair: ∀(i j:Nat) p o,i<j→ops[i]? =some p→ops[j]? =some o→z2u ops i o∨(p.apart ops o=true∧y3b (Yv z p.op) (Yv z o.op)=true∧(Yv z o.op=.read →Ki ops i=true)∧(Yv z p.op=.read →Ki ops j=true))
 dst: ∀(i j:Nat) p o d,i<j→ops[i]? =some p→ops[j]? =some o→p.dst=some d→o.dst≠some d
 alloc: ∀(i j:Nat) p o,i<j→ops[i]? =some p→ops[j]? =some o→Yv z o.op=.alloc →p.apart ops o=true
 birth: ∀(i j:Nat) p o,i<j→ops[i]? =some p→ops[j]? =some o→Yv z o.op=.birth → ¬(Yv z p.op=.chain ∨Yv z p.op=.call)
theorem z0d {z:Nat} (h:z5h z ops=true):x2c z ops:=by
 have hj: ∀(j:Nat) o,ops[j]? =some o→(o.after.toList.all (fun e=> !Region.binds .any e||Nat.ble (e.on+1) j)=true∧(!(Yz o.op == .alloc ||isBirth z o.op)||o.guard.isNone)=true)∧ ∀(i:Nat) p,i<j→ops[i]? =some p→y4v z ops i j p o=true:=by
  intro j o ho;have hlt:j<ops.size:=(Ar.1 ho).1;have:=Aw.1 h j (AN.2 hlt)
  grind
 have ord: ∀(j:Nat) o,ops[j]? =some o→ ∀e∈o.after.toList,Region.binds .any e=true→e.on<j:=by intro j o ho e he hb;have:=Aw.1 (hj j o ho).1.1 e he;rw [hb] at this;exact Ae (by grind)
 have bits:=y0u ord ops.toList [] (by simp) (fun k=>by simp) (fun k o hk=>by simp at hk);refine ⟨ord,fun j o ho hk=> ?_,fun j o ho i hb=>bits j o ho i hb,fun i j p o hij hp ho=> ?_,fun i j p o d hij hp ho hd=> ?_,fun i j p o hij hp ho hk=> ?_,fun i j p o hij hp ho hk hc=> ?_⟩
 ·have:=(hj j o ho).1.2;rcases hk with hk | hk;all_goals simp_all [Ky,z4x]
 ·have hpo:=(hj j o ho).2 i p hij hp;unfold y4v at hpo;simp only [Ad,A3] at hpo;cases hb:((y8f ops.toList []).getD j 0).testBit i with
  | true=>grind
  | false=>
   right;rcases hpo.1.1.1 with h1 | ⟨h1,h2⟩
   ·grind
   ·have hi:i<ops.size:=(Ar.1 hp).1;have hjl:j<ops.size:=(Ar.1 ho).1;refine ⟨h1,h2,fun hr=> ?_,fun hr=> ?_⟩
    ·unfold Ki;rw [List.any_eq_true];refine ⟨j,AN.2 hjl,?_⟩;rw [ho,Option.any_some,z7k.1 hr,hb];have:Nat.ble (i+1) j=true:=AD hij
     grind
    ·unfold Ki;rw [List.any_eq_true];refine ⟨i,AN.2 hi,?_⟩;rw [hp,Option.any_some,z7k.1 hr,hb];have:Nat.ble (i+1) j=true:=AD hij
     grind
 all_goals grind [y4v,Ky,z4x]
theorem Xt {z:Nat} {i:Nat} {o:Oper} (ho:ops[i]? =some o):isAlloc ops i=true↔Yv z o.op=.alloc :=by
 grind [Ky,isAlloc]
theorem z1d (i:Nat):i∈Zm ops↔i<ops.size:=by
 grind [Zm]
theorem Yu :(Zm ops).length =ops.size:=by
 unfold Zm;rw [Ao,←List.countP_eq_length_filter,←List.countP_eq_length_filter];have:=List.length_eq_countP_add_countP (isAlloc ops) (l:=List.range ops.size)
 grind
def Ord (ops:Array Oper) (i j:Nat):Prop:=(isAlloc ops i=true∧isAlloc ops j=false)∨(isAlloc ops i=isAlloc ops j∧i<j)
theorem z1c :(Zm ops).Pairwise (Ord ops):=by
 unfold Zm;rw [List.pairwise_append];have hr:(List.range ops.size).Pairwise (· < ·):=List.pairwise_lt_range;refine ⟨?_,?_,?_⟩
 ·refine ((hr.filter _).imp_of_mem fun {a b} ha hb h=> ?_);have h1:=(Bp.1 ha).2;have h2:=(Bp.1 hb).2;exact .inr ⟨h1.trans h2.symm,h⟩
 ·refine ((hr.filter _).imp_of_mem fun {a b} ha hb h=> ?_);have h1:=(Bp.1 ha).2;have h2:=(Bp.1 hb).2;refine .inr ⟨?_,h⟩
  grind
 ·intro a ha b hb;have h1:=(Bp.1 ha).2;have h2:=(Bp.1 hb).2;exact .inl ⟨h1,by grind⟩
theorem z8s {k1 k2:Nat} (h:k1<k2) (h2:k2<(Zm ops).length):Ord ops ((Zm ops)[k1]'(by omega)) (Zm ops)[k2]:=
 List.pairwise_iff_getElem.1 z1c k1 k2 (by omega) h2 h
end
def y1j (ops:Array Oper) (x y:Foot):Prop:=clash x.2.1 y.2.2=true∨clash x.2.2 y.2.1=true→ordered ops x.1 y.1=true
theorem y3i {ops:Array Oper} {x y:Foot} (h:y5j ops x y=true):y1j ops x y:=by
 intro hc
 grind [y5j]
theorem Js {z:Nat} {P:Program} {S:Specs} {R:Runner} {ops:Array Oper} {cx:Ctx}: ∀(l:List (Nat×Bool×Oper)) (acc:List Foot) (st st':St),z1s z P S R ops cx l acc st=some st'→
  ∃f:Nat→St,f 0=st∧f l.length=st'∧(∀(k:Nat) (h:k<l.length),y1r z P S R ops cx l[k].2 (f k)=some (f (k+1)))∧
   (∀(k:Nat) (h:k<l.length),∀y∈acc,y1j ops (Ko S l[k] (f k).eval) y∨lateF z ops l[k] (f k).eval (f k).mem y=true)∧
   ∀(q k:Nat) (hq:q<k) (h:k<l.length),y1j ops (Ko S l[k] (f k).eval) (Ko S (l[q]'(by omega)) (f q).eval)∨lateF z ops l[k] (f k).eval (f k).mem (Ko S (l[q]'(by omega)) (f q).eval)=true
 | [],acc,st,st',h=>by have h:some st=some st':=h;obtain rfl:=Ac h;exact ⟨fun _=>st,rfl,rfl,fun k h=>by simp at h,fun k h=>by simp at h,fun q k _ h=>by simp at h⟩
 | x::l,acc,st,st',h=>by
  have h:(bif acc.all (fun y=>y5j ops (Ko S x st.eval) y||lateF z ops x st.eval st.mem y) then
    match y1r z P S R ops cx x.2 st with
    | some st'=>z1s z P S R ops cx l (Ko S x st.eval::acc) st'
    | none=>none
   else none)=some st':=h
  obtain ⟨hacc,h⟩:=Zv h;split at h
  ·rename_i st1 h1;obtain ⟨f,f0,fn,fs,fa,fp⟩:=Js l _ st1 st' h;refine ⟨fun k=>match k with | 0=>st | k+1=>f k,rfl,fn,fun k hk=> ?_,fun k hk y hy=> ?_,fun q k hqk hk=> ?_⟩;all_goals grind [y3i]
  ·cases h
theorem z9l {S:Specs} {op:Op} (h:Yz op=.chain) (ev:Operand→AVal):wrC S op ev=z9k op ev:=by
 cases op with
 | call c=>
  obtain ⟨callee,args,argTypes⟩:=c;cases callee with
  | value f=>cases h
  | _=>rfl
 | _=>rfl
theorem Ku (p q:Nat→Bool) (i:Nat): ∀(n:Nat),(∀k,k≠i→q k=p k)→p i=true→q i=false→i<n→(List.range n).countP q+1=(List.range n).countP p
 | 0,_,_,_,h=>absurd h (Ay _)
 | n+1,hpq,hp,hq,h=>by
  rw [List.range_succ,List.countP_append,List.countP_append];by_cases hi:i<n
  ·have:=Ku p q i n hpq hp hq hi
   grind
  ·have hin:i=n:=by omega
   subst hin;have e:(List.range i).countP q=(List.range i).countP p:=List.countP_congr fun k hk=>by
    grind
   grind
section
variable {P:Program}
theorem Rel.unborn {ρ:Rho} {mem:Mem} {next:Nat} {w:World} (h:Rel ρ mem next w) (o:Option ABlk):Rel ρ (Ya mem next o) (next+1) w:=by
 have ne: ∀b l,ρ b=some l→b≠next:=fun b l e=>by have:=h.dom b l e;omega
 refine ⟨fun b l e=>by have:=h.dom b l e;omega,fun b b' l l' e e' he hs hs'=> ?_,fun b l ab e hm=> ?_,h.old,fun b l e hs=>h.sep b l e (by rwa [Zy _ _ (ne b l e)] at hs),h.real,fun b hb=>by rw [Zy _ _ (by omega)];exact h.bd b (by omega),⟨fun j l e=>AQ (h.ldom.1 j l e),h.ldom.2⟩⟩
 ·rw [Zy _ _ (ne b l e)] at hs;rw [Zy _ _ (ne b' l' e')] at hs';exact h.inj b b' l l' e e' he hs hs'
 ·rw [Zy _ _ (ne b l e)] at hm;exact h.blk b l ab e hm
theorem Rel.birth {ρ:Rho} {mem:Mem} {next:Nat} {w:World} (h:Rel ρ mem next w) {b:Nat} {cs:List AVal} {ty:TypeId} (hb:b<next) (hn:ρ b=none) (hm:Ze mem b=some ⟨cs,ty,none⟩) {vs:Array Value} (el:TypeId) (hv:Xm ρ cs vs) (hel:el=ty):
  Rel (Xq ρ b ⟨w.heap.size,0,cs.length,vs.size⟩) mem next {w with heap:=w.heap.push (.cells vs el)}:=by
 have hle:=Vf (l:=⟨w.heap.size,0,cs.length,vs.size⟩) hn;have cJ: ∀c l,Xq ρ b ⟨w.heap.size,0,cs.length,vs.size⟩ c=some l→(c=b∧l=⟨w.heap.size,0,cs.length,vs.size⟩)∨(c≠b∧ρ c=some l):=fun c l e=>by
  grind [Xa]
 refine ⟨fun c l e=> ?_,fun c c' l l' e e' hbl hs hs'=> ?_,fun c l ab e hc=> ?_,fun k o e=> ?_,fun c l e=> ?_,fun c l e=> ?_,h.bd,h.ldom⟩
 ·rcases cJ c l e with ⟨rfl,_⟩ | ⟨_,e⟩
  ·exact hb
  ·exact h.dom c l e
 ·rcases cJ c l e with ⟨hc,hl⟩ | ⟨hc,e2⟩ <;> rcases cJ c' l' e' with ⟨hc',hl'⟩ | ⟨hc',e2'⟩
  ·rw [hc,hc']
  ·have:=h.real c' l' e2';grind
  ·have:=h.real c l e2;grind
  ·exact h.inj c c' l l' e2 e2' hbl hs hs'
 ·rcases cJ c l e with ⟨rfl,rfl⟩ | ⟨_,e⟩
  ·rw [hm] at hc;obtain rfl:=Ac hc;have h1:=hv.1;refine .plain ⟨by simp [hel],rfl,by grind,(fun A e=>by cases e),vs,el,by simp,by simp,fun i hi=> ?_⟩;have h2:i<vs.size:=by grind
   exact ⟨vs[i],by grind,(hv.2 i hi h2).mono hle⟩
  ·refine (h.blk c l ab e hc).world hle ?_;have:=h.real c l e
   grind
 ·have hk:=h.old k o e
  grind
 ·intro hs;rcases cJ c l e with ⟨rfl,rfl⟩ | ⟨_,e⟩
  ·exact h.hold _ (Aj _)
  ·exact h.sep c l e hs
 ·rcases cJ c l e with ⟨rfl,rfl⟩ | ⟨_,e⟩
  ·simp
  ·have:=h.real c l e;simp;omega
structure Reg (S:Specs) (z:Nat) (P:Program) (ops:Array Oper) (cx:Ctx) (st:St) (f:Nat→St):Prop where
 chk:x2c z ops
 f0:f 0=st
 hcx:cx.floor≤st.next
 ob: ∀k,k≤ops.size→(f k).ob =true
 step: ∀(k:Nat) (h:k<(Zm ops).length),x5b S z P ops cx (Ki ops (Zm ops)[k],ops.getD (Zm ops)[k] default) (f k) (f (k+1))
 foot: ∀(q k:Nat) (hq:q<k) (h:k<(Zm ops).length),y1j ops (Ko S ((Zm ops)[k],Ki ops (Zm ops)[k],ops.getD (Zm ops)[k] default) (f k).eval) (Ko S ((Zm ops)[q],Ki ops (Zm ops)[q],ops.getD (Zm ops)[q] default) (f q).eval)∨
  lateF z ops ((Zm ops)[k],Ki ops (Zm ops)[k],ops.getD (Zm ops)[k] default) (f k).eval (f k).mem (Ko S ((Zm ops)[q],Ki ops (Zm ops)[q],ops.getD (Zm ops)[q] default) (f q).eval)=true
variable {Sp:Specs} {z:Nat} {ops:Array Oper} {cx:Ctx} {st:St} {f:Nat→St}
def at_ (ops:Array Oper) (k:Nat):Nat:=(Zm ops).getD k ops.size
theorem x4w {k:Nat} (h:k<ops.size):at_ ops k<ops.size:=by
 have hl:k<(Zm ops).length :=by rw [Yu];exact h
 have:at_ ops k=(Zm ops)[k]:=by simp [at_,hl]
 rw [this];exact (z1d _).1 (AE hl)
theorem Jc {k1 k2:Nat} (h:k1<k2) (h2:k2<ops.size):Ord ops (at_ ops k1) (at_ ops k2):=by
 grind [Yu,z8s,at_]
theorem x8p {i:Nat} (h:i<ops.size): ∃k,k<ops.size∧at_ ops k=i:=by obtain ⟨k,hk,e⟩:=A7 ((z1d (ops:=ops) i).2 h);exact ⟨k,by rw [Yu] at hk;exact hk,by simp [at_,hk,e]⟩
theorem Reg.step' (g:Reg Sp z P ops cx st f) {k:Nat} (h:k<ops.size): ∃o,ops[at_ ops k]? =some o∧x5b Sp z P ops cx (Ki ops (at_ ops k),o) (f k) (f (k+1)):=by
 have hl:k<(Zm ops).length :=by rw [Yu];exact h
 have e:at_ ops k=(Zm ops)[k]:=by simp [at_,hl]
 have hlt:=x4w h;refine ⟨ops[at_ ops k],by simp [hlt],?_⟩;have:=g.step k hl;rw [←e] at this;have hd:ops.getD (at_ ops k) default=ops[at_ ops k]:=by simp [hlt]
 grind
theorem Reg.foot' (g:Reg Sp z P ops cx st f) {q k:Nat} (hq:q<k) (h:k<ops.size) {o x:Oper} (ho:ops[at_ ops k]? =some o) (hx:ops[at_ ops q]? =some x):
  y1j ops (at_ ops k,y2j o.op (f k).eval,wrC Sp o.op (f k).eval) (at_ ops q,y2j x.op (f q).eval,wrC Sp x.op (f q).eval)∨lateF z ops (at_ ops k,Ki ops (at_ ops k),o) (f k).eval (f k).mem (at_ ops q,y2j x.op (f q).eval,wrC Sp x.op (f q).eval)=true:=by
 have hl:k<(Zm ops).length :=by rw [Yu];exact h
 have hl2:q<(Zm ops).length :=by omega
 have e:at_ ops k=(Zm ops)[k]:=by simp [at_,hl]
 have e2:at_ ops q=(Zm ops)[q]:=by simp [at_,hl2]
 have:=g.foot q k hq hl;rw [←e,←e2] at this;have hd:ops.getD (at_ ops k) default=o:=by simp [ho]
 have hd2:ops.getD (at_ ops q) default=x:=by simp [hx]
 rw [hd,hd2] at this;exact this
theorem Reg.next_le (g:Reg Sp z P ops cx st f): ∀{a b:Nat},a≤b→b≤ops.size→(f a).next ≤(f b).next :=by
 intro a b hab hb
 induction b with
 | zero=>grind
 | succ b ih=>
  by_cases e:a=b+1
  ·grind
  ·obtain ⟨o,_,s⟩:=g.step' (k:=b) (by omega);exact AJ (ih (by omega) (by omega)) s.inv.nxt
theorem Reg.bd (g:Reg Sp z P ops cx st f) (h0: ∀b,st.next≤b→Ze st.mem b=none): ∀{k:Nat},k≤ops.size→ ∀b,(f k).next ≤b→Ze (f k).mem b=none:=by
 intro k hk
 induction k with
 | zero=>rw [g.f0];exact h0
 | succ k ih=>obtain ⟨o,_,s⟩:=g.step' (k:=k) (by omega);exact s.inv.bd (ih (by omega))
theorem Reg.slot_stays (g:Reg Sp z P ops cx st f) {t:Tmp}: ∀{a b:Nat},a≤b→b≤ops.size→(∀k o,a≤k→k<b→ops[at_ ops k]? =some o→o.dst≠some t)→(f b).tmp t=(f a).tmp t:=by
 intro a b hab hb hno
 induction b with
 | zero=>grind
 | succ b ih=>
  by_cases e:a=b+1
  ·subst e;rfl
  ·obtain ⟨o,ho,s⟩:=g.step' (k:=b) (by omega);rw [s.other (g.ob _ hb) t (hno b o (by omega) (by omega) ho)]
   grind
def Vi (z:Nat) (o:Oper):Prop:=Yv z o.op=.chain ∨Yv z o.op=.call
def y2m (z:Nat) (o:Oper):Prop:=Yv z o.op=.pure ∨Yv z o.op=.lit
def z0z (z:Nat) (o:Oper):Prop:=Yv z o.op=.alloc ∨Yv z o.op=.birth
theorem y3c (z:Nat) (o:Oper):y2m z o∨Yv z o.op=.read ∨z0z z o∨Vi z o:=by unfold Vi y2m z0z;cases Yv z o.op <;> simp
theorem Reg.mem_stays (g:Reg Sp z P ops cx st f): ∀{a b:Nat},a≤b→b≤ops.size→(∀k o,a≤k→k<b→ops[at_ ops k]? =some o→y2m z o∨Yv z o.op=.read)→(f b).mem =(f a).mem ∧(f b).next =(f a).next :=by
 intro a b hab hb hno
 induction b with
 | zero=>grind
 | succ b ih=>
  by_cases e:a=b+1
  ·grind
  ·obtain ⟨o,ho,s⟩:=g.step' (k:=b) (by omega);obtain ⟨e1,e2⟩:=s.stay (by rcases hno b o (by omega) (by omega) ho with (k | k) | k <;> simp [k])
   grind
theorem Reg.blk_stays (g:Reg Sp z P ops cx st f) {x:Nat}: ∀{a b:Nat},a≤b→b≤ops.size→x<(f a).next →
  (∀k o,a≤k→k<b→ops[at_ ops k]? =some o→y2m z o∨Yv z o.op=.read ∨(Yv z o.op=.call ∧Ki ops (at_ ops k)=true∧wrC Sp o.op (f k).eval ≠some x)∨(Yv z o.op=.chain ∧z9k o.op (f k).eval ≠some x)∨z0z z o)→Ze (f b).mem x=Ze (f a).mem x:=by
 intro a b hab hb hx hno
 induction b with
 | zero=>grind
 | succ b ih=>
  by_cases e:a=b+1
  ·subst e;rfl
  ·obtain ⟨o,ho,s⟩:=g.step' (k:=b) (by omega);have ih:=ih (by omega) (by omega) fun k o h1 h2=>hno k o h1 (by omega);rw [←ih];rcases hno b o (by omega) (by omega) ho with h1 | h1 | ⟨h1,h2,h3⟩ | ⟨h1,h2⟩ | h1
   ·rw [(s.stay (by rcases h1 with k | k <;> simp [k])).1]
   ·rw [(s.stay (.inr (.inl h1))).1]
   ·exact s.lift (g.ob _ hb) h2 h1 x (AG hx (g.next_le (by omega) (by omega))) h3
   ·exact s.foot (g.ob _ hb) h1 x (AG hx (g.next_le (by omega) (by omega))) h2
   ·obtain ⟨cells,ty,e1,_,_⟩:=s.fresh (g.ob _ hb) h1 (g.chk.guard _ o ho h1);have:=AG hx (g.next_le (a:=a) (b:=b) (by omega) (by omega));rw [e1,Zy _ _ (by omega)]
structure Inv (z:Nat) (P:Program) (D:List Deferred) (ops:Array Oper) (cx:Ctx) (st:St) (f:Nat→St) (ρ0:Rho) (w0:World) (S:Nat→Bool) (p:Nat) (ρ:Rho) (a:Act) (w:World):Prop where
 closed:z1l ops S
 defers:a.defers=D
 tsz:a.tmps.size=cx.n
 done: ∀k o d,k<ops.size→ops[at_ ops k]? =some o→S (at_ ops k)=true→o.dst=some d→Zj ρ ((f (k+1)).tmp d) (a.tmps.getD d undef)
 undone: ∀t,(∀i o,ops[i]? =some o→S i=true→o.dst≠some t)→Zj ρ (st.tmp t) (a.tmps.getD t undef)
 ple:p≤ops.size
 past: ∀k o,k<ops.size→ops[at_ ops k]? =some o→z0z z o→k<p
 chain: ∀k o,k<ops.size→ops[at_ ops k]? =some o→Vi z o→(S (at_ ops k)=true↔k<p)
 rel:Rel ρ (f p).mem (f p).next w
 ev:Ev ρ0 ρ cx.floor st.mem st.next (f p).mem (f p).next w0 w
 late: ∀k q o x b ab,k<q→q<p→q<ops.size→ops[at_ ops k]? =some o→ops[at_ ops q]? =some x→S (at_ ops k)=false→Vi z x→Jy z ops (at_ ops k) (at_ ops q)=true→y3y x.op (f q).eval (f q).mem =some b→Ze (f q).mem b=some ab→Rel ρ (Ya .leaf b (some ab)) (f p).next w
 allocs: ∀k o,k<ops.size→ops[at_ ops k]? =some o→z0z z o→S (at_ ops k)=false→st.next≤(f k).next ∧(f k).next <(f p).next ∧ρ (f k).next =none∧Ze (f p).mem (f k).next =Ze (f (k+1)).mem (f k).next
theorem z4r {o:Oper} {t:Tmp} (h:Operand.tmp t∈o.op.operands):t∈o.looksAt ops:=by unfold Oper.looksAt;rw [List.mem_append];left;rw [List.mem_filterMap];exact ⟨.tmp t,Array.mem_toList_iff.2 h,rfl⟩
theorem z8m {o:Oper} {d:Tmp} (h:Xn ops o=some d):d∈o.looksAt ops:=by
 grind [Oper.looksAt,Xn]
theorem y3z (g:Reg Sp z P ops cx st f) {i:Nat} {o:Oper} (ho:ops[i]? =some o) (hk:Yv z o.op=.alloc):o.looksAt ops=[]:=by
 unfold Oper.looksAt;rw [g.chk.guard i o ho (.inl hk)];rw [Ky] at hk;obtain ⟨dst,op,type,pos,after,guard⟩:=o;simp only at hk ⊢;cases op with
 | alloc t=>rfl
 | call c=>
  obtain ⟨callee,args,argTypes⟩:=c;cases callee with
  | builtin b=>cases b <;> cases hk
  | value f=>cases hk
  | invoke r m=>cases hk
 | _=>cases hk
section
variable {D:List Deferred} {ρ0:Rho} {w0:World} {S:Nat→Bool} {p:Nat} {ρ:Rho} {a:Act} {w:World}
theorem z8t (g:Reg Sp z P ops cx st f) {i j:Nat} {x y:Oper} {d:Tmp} (hi:ops[i]? =some x) (hj:ops[j]? =some y) (hx:x.dst=some d) (hy:y.dst=some d):i=j:=by
 rcases A0 i j with h | h | h
 ·exact absurd hy (g.chk.dst i j x y d h hi hj hx)
 ·exact h
 ·exact absurd hx (g.chk.dst j i y x d h hj hi hy)
theorem Inv.looks (g:Reg Sp z P ops cx st f) (I:Inv z P D ops cx st f ρ0 w0 S p ρ a w) {k:Nat} {o:Oper} (hk:k<ops.size) (ho:ops[at_ ops k]? =some o) (hns:S (at_ ops k)=false) (cL:z9i S o) {t:Tmp} (ht:t∈o.looksAt ops):
  Zj ρ ((f k).tmp t) (a.tmps.getD t undef):=by
 by_cases hw: ∃i x,ops[i]? =some x∧S i=true∧x.dst=some t
 ·obtain ⟨i,x,hx,hs,hd⟩:=hw;have hil:i<ops.size:=(Ar.1 hx).1;obtain ⟨k',hk',rfl⟩:=x8p hil;have hne:k'≠k:=fun e=>by grind
  have hlt:k'<k:=by
   rcases AS k' k with h | h
   ·exact h
   ·exfalso;have hkk:k<k':=(by omega);rcases A0 (at_ ops k) (at_ ops k') with hij | hij | hij
    ·rcases g.chk.pair _ _ _ _ hij ho hx with hf | ⟨hap,_⟩
     ·have:=hf S I.closed (fun e he hb=>I.closed _ _ hx hs e he hb)
      grind
     grind [Oper.apart_spec]
    ·grind
    ·rcases Jc hkk hk' with ⟨h1,_⟩ | ⟨_,h2⟩;all_goals grind [y3z,Xt]
  have hst:(f k).tmp t=(f (k'+1)).tmp t:=g.slot_stays (by omega) (by omega) fun q y h1 h2 hy hyd=>by
   have:=z8t g hx hy hd hyd;have e:at_ ops k'=at_ ops q:=this;rcases Jc (ops:=ops) (k1:=k') (k2:=q) (by omega) (by omega) with ⟨h1,h2⟩ | ⟨_,h2⟩;all_goals grind
  rw [hst];exact I.done k' x t hk' hx hs hd
 ·have hno: ∀i x,ops[i]? =some x→S i=true→x.dst≠some t:=fun i x hx hs hd=>hw ⟨i,x,hx,hs,hd⟩;have hst:(f k).tmp t=(f 0).tmp t:=g.slot_stays (AF _) (by omega) fun q y _ h2 hy hyd=>by
   have hqs:S (at_ ops q)=false:=by
    grind
   rcases A0 (at_ ops q) (at_ ops k) with hij | hij | hij
   ·rcases g.chk.pair _ _ _ _ hij hy ho with hf | ⟨hap,_⟩
    ·have:=hf S I.closed cL
     grind
    grind [Oper.apart_spec]
   ·rcases Jc (ops:=ops) h2 hk with ⟨h1,h3⟩ | ⟨_,h3⟩;all_goals grind
   ·rcases Jc (ops:=ops) h2 hk with ⟨h1,_⟩ | ⟨_,h3⟩
    ·have hap:=g.chk.alloc _ _ _ _ hij ho hy ((Xt (z:=z) hy).1 h1)
     grind [Oper.apart_spec]
    ·omega
  rw [hst,g.f0];exact I.undone t hno
theorem Inv.operands (g:Reg Sp z P ops cx st f) (I:Inv z P D ops cx st f ρ0 w0 S p ρ a w) {k:Nat} {o:Oper} (hk:k<ops.size) (ho:ops[at_ ops k]? =some o) (hns:S (at_ ops k)=false) (cL:z9i S o):Vk ρ (f k).eval a.eval o.op:=by
 intro x hx;cases x with
 | tmp t=>exact I.looks g hk ho hns cL (z4r hx)
 | const v=>exact x0e v
 | global g=>exact .undef _
 | func f=>exact .fn f [] #[] rfl fun i h1 _=>by simp at h1
theorem Inv.slots (g:Reg Sp z P ops cx st f) (I:Inv z P D ops cx st f ρ0 w0 S p ρ a w) {k:Nat} {o:Oper} (hk:k<ops.size) (ho:ops[at_ ops k]? =some o) (hns:S (at_ ops k)=false) {ρ':Rho} (hle:ρ.le ρ') {u:Value}
  (cR: ∀d,o.dst=some d→Zj ρ' ((f (k+1)).tmp d) u) {S':Nat→Bool} (hS: ∀i,S' i=(S i||i == at_ ops k)):
  (∀k' x d,k'<ops.size→ops[at_ ops k']? =some x→S' (at_ ops k')=true→x.dst=some d→Zj ρ' ((f (k'+1)).tmp d) ((a.put o.dst u).tmps.getD d undef))∧
  (∀t,(∀i x,ops[i]? =some x→S' i=true→x.dst≠some t)→Zj ρ' (st.tmp t) ((a.put o.dst u).tmps.getD t undef)):=by
 have other: ∀t,o.dst≠some t→(a.put o.dst u).tmps.getD t undef=a.tmps.getD t undef:=fun t ht=>by
  cases hd:o.dst with
  | none=>rfl
  | some d=>simp_all [Act.put]
 obtain ⟨_,ho',s⟩:=g.step' hk;rw [ho] at ho';obtain rfl:=Ac ho';refine ⟨fun k' x d hk' hx hs hd=> ?_,fun t hno=> ?_⟩
 ·by_cases hod:o.dst=some d
  ·have e:=z8t g ho hx hod hd;have hkk:k'=k:=by
    rcases A0 k' k with h | h | h
    ·rcases Jc (ops:=ops) h hk with ⟨h1,h3⟩ | ⟨_,h3⟩;all_goals grind
    ·exact h
    ·rcases Jc (ops:=ops) h hk' with ⟨h1,h3⟩ | ⟨_,h3⟩;all_goals grind
   subst hkk;have hlt:d<a.tmps.size:=by rw [I.tsz];exact s.slot d hod
   simp_all [Act.put]
  ·rw [other d hod];have hne:at_ ops k'≠at_ ops k:=fun e=>by
    grind
   have hs':S (at_ ops k')=true:=by
    grind
   exact (I.done k' x d hk' hx hs' hd).mono hle
 ·have hod:o.dst≠some t:=hno _ o ho (by rw [hS];simp);rw [other t hod];exact (I.undone t fun i x hx hs=>hno i x hx (by grind)).mono hle
theorem Inv.closes (I:Inv z P D ops cx st f ρ0 w0 S p ρ a w) {i:Nat} {o:Oper} (ho:ops[i]? =some o) (cL:z9i S o) {S':Nat→Bool} (hS: ∀j,S' j=(S j||j == i)):z1l ops S':=by
 intro j x hx hs e he hb;rw [hS] at hs ⊢;by_cases hj:j=i
 ·subst hj;rw [ho] at hx;obtain rfl:=Ac hx;rw [cL e he hb];rfl
 ·have:S j=true:=by grind
  rw [I.closed j x hx this e he hb];rfl
theorem y7t {i:Nat} {l:Bool} {o:Oper} {ev:Operand→AVal} {mem:Mem} {y:Foot} (h:Yv z o.op=.read):lateF z ops (i,l,o) ev mem y=false:=by
 have hk:y3y o.op ev mem=none:=by
  unfold y3y;split
  ·rename_i e;rw [e] at h;cases h
  ·rfl
 unfold lateF
 grind
theorem y7s {i j b:Nat} {l:Bool} {x:Oper} {ev:Operand→AVal} {mem:Mem} {wr:Option Nat} (h:lateF z ops (i,l,x) ev mem (j,some b,wr)=true):Jy z ops j i=true∧y3y x.op ev mem=some b:=by
 unfold lateF at h;split at h
 ·rename_i j' b' e;simp only [Aa,Ab] at e;obtain ⟨rfl,rfl,rfl⟩:=e;split at h;all_goals simp_all
 ·cases h
theorem Inv.between (g:Reg Sp z P ops cx st f) (I:Inv z P D ops cx st f ρ0 w0 S p ρ a w) {k:Nat} {o:Oper} (hk:k<ops.size) (ho:ops[at_ ops k]? =some o) (hns:S (at_ ops k)=false) (cL:z9i S o) (eC:Yv z o.op=.read) {b:Nat} (hb:y2j o.op (f k).eval =some b):
  (∀q x,p≤q→q<k→ops[at_ ops q]? =some x→y2m z x∨Yv z x.op=.read ∨(Yv z x.op=.call ∧Ki ops (at_ ops q)=true∧wrC Sp x.op (f q).eval ≠some b)∨(Yv z x.op=.chain ∧z9k x.op (f q).eval ≠some b)∨z0z z x)∧
  (∀q x,k≤q→q<p→ops[at_ ops q]? =some x→y2m z x∨Yv z x.op=.read ∨(Yv z x.op=.call ∧Ki ops (at_ ops q)=true∧wrC Sp x.op (f q).eval ≠some b)∨(Yv z x.op=.chain ∧z9k x.op (f q).eval ≠some b)∨z0z z x∨(Vi z x∧Jy z ops (at_ ops k) (at_ ops q)=true∧y3y x.op (f q).eval (f q).mem =some b)):=by
 have nal:isAlloc ops (at_ ops k)=false:=by
  grind [Xt]
 constructor
 ·intro q x h1 h2 hx;rcases y3c z x with h | h | h | h
  ·exact .inl h
  ·grind
  ·grind
  ·have hqs:S (at_ ops q)=false:=by
    cases e:S (at_ ops q) with
    | false=>rfl
    | true=>have:=(I.chain q x (by omega) hx h).1 e;omega
   have hlt:at_ ops q<at_ ops k:=by
    rcases Jc (ops:=ops) h2 hk with ⟨h3,_⟩ | ⟨_,h3⟩
    ·have:=I.past q x (by omega) hx (.inl ((Xt (z:=z) hx).1 h3));omega
    ·exact h3
   rcases g.chk.pair _ _ _ _ hlt hx ho with hf | ⟨_,hkd,hl,_⟩
   ·have:=hf S I.closed cL
    grind
   ·have no:wrC Sp x.op (f q).eval ≠some b:=fun hw=>by
     have:=(g.foot' h2 hk ho hx).resolve_right (fun hl=>by
      rw [y7t eC] at hl;cases hl) (.inl (by rw [hb,hw];exact Nat.beq_refl b))
     unfold ordered at this;simp only [A3] at this;rcases this with this | this
     ·have:=(g.chk.bits _ _ hx _ this).1;omega
     ·have:=(g.chk.bits _ _ ho _ this).2 S I.closed cL
      grind
    rcases h with h | h;all_goals simp_all [z9l,z8p]
 ·intro q x h1 h2 hx;have hp:=I.ple;rcases y3c z x with h | h | h | h
  ·exact .inl h
  ·grind
  ·grind
  ·have hqs:S (at_ ops q)=true:=(I.chain q x (by omega) hx h).2 h2;have hne:q≠k:=fun e=>by grind
   have hlt:at_ ops k<at_ ops q:=by
    rcases Jc (ops:=ops) (k1:=k) (k2:=q) (by omega) (by omega) with ⟨h3,_⟩ | ⟨_,h3⟩;all_goals grind
   rcases g.chk.pair _ _ _ _ hlt ho hx with hf | ⟨_,hkd,_,hl⟩
   ·have:=hf S I.closed fun e he hb=>I.closed _ _ hx hqs e he hb
    grind
   ·rcases g.foot' (q:=k) (k:=q) (by omega) (by omega) hx ho with hfo | hla
    rotate_left
    ·grind [y7s]
    have no:wrC Sp x.op (f q).eval ≠some b:=fun hw=>by
     have:=hfo (.inr (by rw [hb,hw];exact Nat.beq_refl b));unfold ordered at this;simp only [A3] at this;rcases this with this | this
     ·have:=(g.chk.bits _ _ ho _ this).1;omega
     ·have:=(g.chk.bits _ _ hx _ this).2 S I.closed fun e he hb=>I.closed _ _ hx hqs e he hb
      grind
    rcases h with h | h;all_goals simp_all [z9l,z8p]
theorem Inv.next_chain (g:Reg Sp z P ops cx st f) (I:Inv z P D ops cx st f ρ0 w0 S p ρ a w) {k:Nat} {o:Oper} (hk:k<ops.size) (ho:ops[at_ ops k]? =some o) (hns:S (at_ ops k)=false) (cL:z9i S o) (hch:Vi z o):
  p≤k∧(∀q x,q<ops.size→ops[at_ ops q]? =some x→Vi z x→(S (at_ ops q)=true↔q<k)):=by
 have nal:isAlloc ops (at_ ops k)=false:=by
  cases e:isAlloc ops (at_ ops k) with
  | false=>rfl
  | true=>have:=(Xt (z:=z) ho).1 e;rcases hch with h | h <;> rw [h] at this <;> cases this
 have key: ∀q x,q<ops.size→ops[at_ ops q]? =some x→Vi z x→(S (at_ ops q)=true↔q<k):=by
  intro q x hq hx hxc;have nalx:isAlloc ops (at_ ops q)=false:=by
   cases e:isAlloc ops (at_ ops q) with
   | false=>rfl
   | true=>have:=(Xt (z:=z) hx).1 e;rcases hxc with h | h <;> rw [h] at this <;> cases this
  have nok: ∀(x y:Oper),Vi z x→Vi z y→y3b (Yv z x.op) (Yv z y.op)=false:=by
   intro x y hx hy;rcases hx with h | h <;> rcases hy with h' | h' <;> rw [h,h'] <;> rfl
  constructor
  ·intro hs;rcases A0 q k with h | h | h
   ·exact h
   ·grind
   ·exfalso;have hlt:at_ ops k<at_ ops q:=by
     rcases Jc (ops:=ops) h hq with ⟨h3,_⟩ | ⟨_,h3⟩;all_goals grind
    rcases g.chk.pair _ _ _ _ hlt ho hx with hf | ⟨_,hkd,_⟩
    ·have:=hf S I.closed fun e he hb=>I.closed _ _ hx hs e he hb
     grind
    grind
  ·intro h;have hlt:at_ ops q<at_ ops k:=by
    rcases Jc (ops:=ops) h hk with ⟨h3,_⟩ | ⟨_,h3⟩;all_goals grind
   rcases g.chk.pair _ _ _ _ hlt hx ho with hf | ⟨_,hkd,_⟩
   ·exact hf S I.closed cL
   grind
 refine ⟨?_,key⟩;rcases AS k p with h | h
 ·have:=(I.chain k o hk ho hch).2 h
  grind
 ·exact h
end
end
section
variable {Sp:Specs} {z:Nat} {P:Program} {D:List Deferred} {ops:Array Oper} {cx:Ctx} {st:St} {f:Nat→St}
theorem y6l {ρ ρ':Rho} {floor:Nat} {m m':Mem} {n n':Nat} {w w':World} (h:Rel ρ m n w) (h':Rel ρ' m' n' w') (e:Ev ρ ρ' floor m n m' n' w w') {b:Nat} {ab:ABlk} (hm:Ze m b=some ab) (hb: ∀l,ρ b=some l→Yi ρ w' ab l):
  Rel ρ' (Ya .leaf b (some ab)) n' w':=by
 have hbn:b<n:=by
  rcases AS b n with g | g
  ·exact g
  ·rw [h.bd b g] at hm;cases hm
 have hn:=e.nxt;have hg: ∀c,(Ze (Ya .leaf b (some ab)) c).isSome =true→c=b:=fun c hc=>by
  by_cases hcb:c=b
  ·exact hcb
  ·rw [Zy _ _ hcb] at hc;cases hc
 refine ⟨h'.dom,fun c c' l l' _ _ _ hs hs'=>(hg c hs).trans (hg c' hs').symm,fun c l a hc ha=> ?_,h'.old,fun c l hc hs=> ?_,h'.real,fun c hc=> ?_,h'.ldom⟩
 ·obtain rfl:=hg c (by rw [ha];rfl);rw [Zq] at ha;obtain rfl:=Ac ha;rw [e.new c hbn] at hc;have q:=hb l hc;exact q.world e.ext rfl
 ·obtain rfl:=hg c hs;rw [e.new c hbn] at hc;rw [e.still _ (h.real c l hc)];exact h.sep c l hc (by rw [hm];rfl)
 ·rw [Zy _ _ (by omega)];rfl
theorem x4p (g:Reg Sp z P ops cx st f) {ρ0:Rho} {w0:World} (hout: ∀i,cx.n≤i→T.get .undef st.env i=.undef) (hbd: ∀b,st.next≤b→Ze st.mem b=none): ∀(fuel:Nat) (listed:Array Bool) (p:Nat) (ρ:Rho) (a:Act) (w:World),listed.size=ops.size→
  (List.range ops.size).countP (fun i=> !listed.getD i false)=fuel→Inv z P D ops cx st f ρ0 w0 (fun i=>listed.getD i false) p ρ a w→wpAny P .any ops (Fin D ρ0 cx st (f ops.size) w0) fuel listed a w:=by
 have someReady: ∀listed:Array Bool,listed.size=ops.size→ ∀i,i<ops.size→listed.getD i false=false→ ∃j,j∈Region.ready .any ops listed:=by
  intro listed hsz i
  induction i using Nat.strongRecOn with
  | _ i ih=>
   intro hi hl;by_cases h: ∃e∈(ops[i]).after.toList,Region.binds .any e=true∧listed.getD e.on false=false
   ·obtain ⟨e,he,hb,hf⟩:=h;have hlt:=g.chk.ord i ops[i] (by simp [hi]) e he hb
    grind
   ·refine ⟨i,mem_ready.2 ⟨?_,ops[i],by simp [hi],fun e he hb=> ?_⟩⟩;all_goals grind
 intro fuel
 induction fuel with
 | zero=>
  intro listed p ρ a w hsz hcnt I;have dD: ∀i,i<ops.size→listed.getD i false=true:=by simp_all
  refine ⟨?_,rfl,I.defers,ρ,?_,?_,?_⟩
  ·simp_all [Region.ready]
  ·refine ⟨I.tsz,fun t=> ?_,fun i hi=> ?_⟩
   ·by_cases hw: ∃(i:Nat) (x:Oper),ops[i]? =some x∧x.dst=some t
    ·obtain ⟨i,x,hx,hd⟩:=hw;have hil:i<ops.size:=(Ar.1 hx).1;obtain ⟨k,hk,rfl⟩:=x8p hil;have hst:(f ops.size).tmp t=(f (k+1)).tmp t:=g.slot_stays (by omega) (Aj _) fun q y h1 h2 hy hyd=>by
      have e:at_ ops k=at_ ops q:=z8t g hx hy hd hyd;rcases Jc (ops:=ops) (k1:=k) (k2:=q) (by omega) h2 with ⟨h3,h4⟩ | ⟨_,h4⟩;all_goals grind
     show Zj ρ ((f ops.size).tmp t) _;rw [hst];exact I.done k x t hk hx (dD _ hil) hd
    ·have hst:(f ops.size).tmp t=(f 0).tmp t:=g.slot_stays (AF _) (Aj _) fun q y _ h2 hy hyd=>hw ⟨_,y,hy,hyd⟩;show Zj ρ ((f ops.size).tmp t) _;rw [hst,g.f0];exact I.undone t fun i x hx _ hd=>hw ⟨i,x,hx,hd⟩
   ·have hst:(f ops.size).tmp i=(f 0).tmp i:=g.slot_stays (AF _) (Aj _) fun q y _ h2 hy hyd=>by obtain ⟨o,ho,s⟩:=g.step' h2;rw [hy] at ho;obtain rfl:=Ac ho;exact absurd hi (Nat.not_le_of_lt (s.slot i hyd))
    show (f ops.size).tmp i=_;rw [hst,g.f0];exact hout i hi
  ·obtain ⟨e1,e2⟩:=g.mem_stays I.ple (Aj _) fun k o h1 h2 ho=>by
    rcases y3c z o with h | h | h | h
    ·exact .inl h
    ·exact .inr h
    ·have:=I.past k o h2 ho h;omega
    ·have:=(I.chain k o h2 ho h).1 (dD _ (x4w h2));omega
   rw [e1,e2];exact I.rel
  ·obtain ⟨e1,e2⟩:=g.mem_stays I.ple (Aj _) fun k o h1 h2 ho=>by
    rcases y3c z o with h | h | h | h
    ·exact .inl h
    ·exact .inr h
    ·have:=I.past k o h2 ho h;omega
    ·have:=(I.chain k o h2 ho h).1 (dD _ (x4w h2));omega
   rw [e1,e2];exact I.ev
 | succ fuel ih=>
  intro listed p ρ a w hsz hcnt I;refine ⟨fun hr=> ?_,fun i hi=> ?_⟩
  ·exfalso;have: ∃i,i<ops.size∧listed.getD i false=false:=by
    have hpos:0<(List.range ops.size).countP (fun i=> !listed.getD i false):=(by omega);obtain ⟨i,hi,h⟩:=List.countP_pos_iff.1 hpos
    grind
   grind
  ·obtain ⟨hun,o,ho,hafter⟩:=mem_ready.1 hi;have hil:i<ops.size:=(Ar.1 ho).1;obtain ⟨k,hk,rfl⟩:=x8p hil;have hil2:at_ ops k<listed.size:=by omega
   have hns:listed.getD (at_ ops k) false=false:=by grind
   have cL:z9i (fun i=>listed.getD i false) o:=fun e he hb=>hafter e (Array.mem_toList_iff.1 he) hb;have hS: ∀j,(listed.setIfInBounds (at_ ops k) true).getD j false=(listed.getD j false||j == at_ ops k):=by
    intro j;by_cases hj:j=at_ ops k
    ·simp_all
    ·have:(j == at_ ops k)=false:=(by grind);simp [this,Array.getElem?_setIfInBounds_ne (Ne.symm hj)]
   have hcnt':(List.range ops.size).countP (fun i=> !(listed.setIfInBounds (at_ ops k) true).getD i false)=fuel:=by
    have:=Ku (fun i=> !listed.getD i false) (fun i=> !(listed.setIfInBounds (at_ ops k) true).getD i false) (at_ ops k) ops.size (fun j hj=>by
     grind) (by grind) (by rw [hS];simp) hil
    omega
   have dZ:(listed.setIfInBounds (at_ ops k) true).size =ops.size:=by grind
   have dR:=I.closes ho cL hS;have undone: ∀{j:Nat},(listed.setIfInBounds (at_ ops k) true).getD j false=false→listed.getD j false=false:=fun {j} h=>by
    grind
   have calms: ∀(k1 q:Nat) (o1 x:Oper),k1<q→q<p→q<ops.size→ops[at_ ops k1]? =some o1→ops[at_ ops q]? =some x→(listed.setIfInBounds (at_ ops k) true).getD (at_ ops k1) false=false→Vi z x→Jy z ops (at_ ops k1) (at_ ops q)=true→x4v z o.op=true:=fun k1 q o1 x c1 c2 c3 c4 c5 c6 c7 c8=>by
    have hq:=(I.chain q x c3 c5 c7).2 c2;have h8:=Aw.1 c8 (at_ ops k) (AN.2 hil);rw [ho] at h8;simp only [A3] at h8;rcases h8 with h8 | h8 | h8 | h8
    ·exact h8
    ·simp_all
    ·have:=(g.chk.bits _ _ c5 _ h8).2 _ I.closed fun e he hb=>I.closed _ _ c5 hq e he hb
     grind
    ·have:=(g.chk.bits _ _ ho _ h8).2 _ I.closed cL
     grind
   have notcalm: ∀{α:Prop},Yv z o.op≠ .pure →Yv z o.op≠ .read →x4v z o.op=true→α:=fun h1 h2 h=>by
    grind [x4v]
   obtain ⟨o',ho',s⟩:=g.step' hk;rw [ho] at ho';obtain rfl:=Ac ho';have hops:=I.operands g hk ho hns cL;have hguard: ∀d,Xn ops o=some d→Zj ρ ((f k).tmp d) (a.tmps.getD d undef):=fun d hd=>I.looks g hk ho hns cL (z8m hd);have hob:=g.ob (k+1) (by omega);have finish: ∀{q:Prop},(if Region.wanted o (yielded ops a.tmps) then o.wp P a w (wpAny P .any ops (Fin D ρ0 cx st (f ops.size) w0) fuel (listed.setIfInBounds (at_ ops k) true)) (Fin D ρ0 cx st (f ops.size) w0) else wpAny P .any ops (Fin D ρ0 cx st (f ops.size) w0) fuel (listed.setIfInBounds (at_ ops k) true) (a.put o.dst undef) w)→
     wpOp P ops (Fin D ρ0 cx st (f ops.size) w0) (at_ ops k) (wpAny P .any ops (Fin D ρ0 cx st (f ops.size) w0) fuel (listed.setIfInBounds (at_ ops k) true)) a w:=by
    grind [wpOp]
   have calm:(Yv z o.op=.pure ∨Yv z o.op=.read)→wpOp P ops (Fin D ρ0 cx st (f ops.size) w0) (at_ ops k) (wpAny P .any ops (Fin D ρ0 cx st (f ops.size) w0) fuel (listed.setIfInBounds (at_ ops k) true)) a w:=by
    intro hkd;obtain ⟨memC,hrelC,hagC⟩: ∃memC,Rel ρ memC (f p).next w∧ ∀t y b ab,o.op=.load t y→y2j o.op (f k).eval =some b→Ze (f k).mem b=some ab→Ze memC b=some ab:=by
     by_cases hl: ∃t y b ab q x,o.op=.load t y∧y2j o.op (f k).eval =some b∧Ze (f k).mem b=some ab∧k≤q∧q<p∧ops[at_ ops q]? =some x∧Vi z x∧Jy z ops (at_ ops k) (at_ ops q)=true∧y3y x.op (f q).eval (f q).mem =some b
     ·obtain ⟨t,y,b,ab,q0,x0,hop,hrd,hm,l1,l2,l3,l4,l5,l6⟩:=hl;have eC:Yv z o.op=.read :=by rw [hop];rfl
      obtain ⟨_,b2⟩:=I.between g hk ho hns cL eC hrd;have hbn:b<(f k).next :=by
       rcases AS b (f k).next with h | h
       ·exact h
       ·rw [g.bd hbd (by omega) b h] at hm;cases hm
      have first: ∀n q x,q≤n→k≤q→q<p→ops[at_ ops q]? =some x→Vi z x→Jy z ops (at_ ops k) (at_ ops q)=true→y3y x.op (f q).eval (f q).mem =some b→
        ∃q x,k≤q∧q<p∧ops[at_ ops q]? =some x∧Vi z x∧Jy z ops (at_ ops k) (at_ ops q)=true∧y3y x.op (f q).eval (f q).mem =some b∧ ∀q' x',k≤q'→q'<q→ops[at_ ops q']? =some x'→ ¬(Vi z x'∧Jy z ops (at_ ops k) (at_ ops q')=true∧y3y x'.op (f q').eval (f q').mem =some b):=by
       intro n
       induction n with
       | zero=>grind
       | succ n ih=>
        intro q x h0 h1 h2 h3 h4 h5 h6;by_cases he: ∃q' x',k≤q'∧q'<q∧ops[at_ ops q']? =some x'∧Vi z x'∧Jy z ops (at_ ops k) (at_ ops q')=true∧y3y x'.op (f q').eval (f q').mem =some b
        ·obtain ⟨q',x',e1,e2,e3,e4,e5,e6⟩:=he;exact ih q' x' (by omega) e1 (by omega) e3 e4 e5 e6
        ·exact ⟨q,x,h1,h2,h3,h4,h5,h6,fun q' x' e1 e2 e3 e4=>he ⟨q',x',e1,e2,e3,e4⟩⟩
      obtain ⟨q,x,h1,h2,h3,h4,h5,h6,h7⟩:=first q0 q0 x0 (Aj _) l1 l2 l3 l4 l5 l6
      have hple:=I.ple;have hne:k≠q:=fun e=>by
       rw [←e,ho] at h3;obtain rfl:=Ac h3;rcases h4 with h | h <;> rw [eC] at h <;> cases h
      have hst:=g.blk_stays (x:=b) (a:=k) (b:=q) h1 (by omega) hbn fun q' x' e1 e2 e3=>by
       rcases b2 q' x' e1 (by omega) e3 with d | d | d | d | d | d;all_goals grind
      refine ⟨_,I.late k q o x b ab (by omega) h2 (by omega) ho h3 hns h4 h5 h6 (by grind),fun t' y' b' ab' hop' hrd' hm'=> ?_⟩
      grind [Zq]
     ·refine ⟨(f p).mem,I.rel,fun t y b ab hop hrd hm=> ?_⟩;have eC:Yv z o.op=.read :=by rw [hop];rfl
      obtain ⟨b1,b2⟩:=I.between g hk ho hns cL eC hrd;have b2: ∀q x,k≤q→q<p→ops[at_ ops q]? =some x→y2m z x∨Yv z x.op=.read ∨(Yv z x.op=.call ∧Ki ops (at_ ops q)=true∧wrC Sp x.op (f q).eval ≠some b)∨(Yv z x.op=.chain ∧z9k x.op (f q).eval ≠some b)∨z0z z x:=fun q x e1 e2 e3=>by
       rcases b2 q x e1 e2 e3 with d | d | d | d | d | d;all_goals grind
      have hρ: ∃l,ρ b=some l:=by
       have:=hops y (by rw [hop];simp [Op.operands]);rw [hop] at hrd;simp only [y2j] at hrd;generalize a.eval y=uy at this;split at hrd
       ·rename_i hy;rw [hy] at this;obtain rfl:=Ac hrd;cases this with
        | ptr _ _ l h=>grind
       ·rename_i hy;rw [hy] at this;obtain rfl:=Ac hrd;cases this with
        | epa _ _ _ _ l h=>grind
       ·cases hrd
      obtain ⟨l,hl⟩:=hρ;rcases Nat.le_total p k with hpk | hpk
      ·have:=g.blk_stays (x:=b) hpk (by omega) (I.rel.dom b l hl) b1
       grind
      ·have hbn:b<(f k).next :=by
        rcases AS b (f k).next with h | h
        ·exact h
        ·rw [g.bd hbd (by omega) b h] at hm;cases hm
       have:=g.blk_stays (x:=b) hpk I.ple hbn b2
       grind
    refine finish (q:=True) (s.calm hob hkd ρ a w (f k).eval memC (f p).next I.tsz (fun _ _=>rfl) hguard hops hrelC hagC _ _ fun u cR=> ?_)
    ·obtain ⟨d1,d2⟩:=I.slots g hk ho hns (Rho.le_refl ρ) cR hS;refine ih _ p ρ _ w dZ hcnt' ⟨dR,by rw [Act.put_defers'];exact I.defers,by cases h:o.dst <;> simp [Act.put,I.tsz],d1,d2,I.ple,I.past,fun q x hq hx hc=> ?_,I.rel,I.ev,fun k1 q o1 x b ab c1 c2 c3 c4 c5 c6=>I.late k1 q o1 x b ab c1 c2 c3 c4 c5 (undone c6),fun q x hq hx hnw hs=> ?_⟩
     ·have hne:at_ ops q≠at_ ops k:=fun e=>by
       rw [e,ho] at hx;obtain rfl:=Ac hx;rcases hc with h | h <;> rcases hkd with h' | h' <;> rw [h] at h' <;> cases h'
      rw [hS]
      simpa [hne] using I.chain q x hq hx hc
     ·rw [hS] at hs;simp only [AY] at hs;exact I.allocs q x hq hx hnw hs.1
   rcases y3c z o with (hkd | hkd) | hkd | hkd | hkd
   ·grind
   ·-- a slice that is written out, as data
    refine finish (q:=True) (s.lit hob hkd ρ a w (f k).eval (f p).mem (f p).next I.tsz (fun _ _=>rfl) hguard hops I.rel _ _ fun ρ' u w' cR cW cV hev=> ?_);obtain ⟨d1,d2⟩:=I.slots g hk ho hns (hev cx.floor (f p).mem).ext cR hS;refine ih _ p ρ' _ w' dZ hcnt' ⟨dR,by rw [Act.put_defers'];exact I.defers,by cases h:o.dst <;> simp [Act.put,I.tsz],d1,d2,I.ple,I.past,fun q x hq hx hc=> ?_,cW,I.ev.trans (hev _ _),fun k1 q o1 x b ab c1 c2 c3 c4 c5 c6 c7 c8=>notcalm (by grind) (by grind) (calms k1 q o1 x c1 c2 c3 c4 c5 c6 c7 c8),fun q x hq hx hnw hs=> ?_⟩
    ·have hne:at_ ops q≠at_ ops k:=fun e=>by
      rw [e,ho] at hx;obtain rfl:=Ac hx;rcases hc with h | h <;> rw [h] at hkd <;> cases hkd
     rw [hS]
     simpa [hne] using I.chain q x hq hx hc
    ·rw [hS] at hs;simp only [AY] at hs;obtain ⟨m1,m2,m3,m4⟩:=I.allocs q x hq hx hnw hs.1
     grind
   ·grind
   ·-- a block is made
    have hgn:=g.chk.guard _ o ho hkd;obtain ⟨cells,ty,hm1,hn1,hborn⟩:=s.fresh hob hkd hgn;obtain ⟨l1,l2,l3,l4⟩:=I.allocs k o hk ho hkd hns;rw [hm1,Zq] at l4;obtain ⟨u,vs,el,hel,hvs,cF,cR⟩:=hborn ρ a w (f k).eval (fun _ _=>rfl) hops;have cW:=I.rel.birth l2 l3 l4 el hvs hel;refine finish (q:=True) ?_;rw [Av (by unfold Region.wanted;rw [hgn])];unfold Oper.wp;rw [cF];have hle:ρ.le (Xq ρ (f k).next ⟨w.heap.size,0,cells.length,vs.size⟩):=Vf l3;obtain ⟨d1,d2⟩:=I.slots g hk ho hns hle (u:=u) (fun d hd=>cR _ (by simp [Xq]) d hd) hS;have ev':Ev ρ0 (Xq ρ (f k).next ⟨w.heap.size,0,cells.length,vs.size⟩) cx.floor st.mem st.next (f p).mem (f p).next w0 {w with heap:=w.heap.push (.cells vs el)}:=by
     have e:=I.ev;refine ⟨Rho.le_trans e.ext hle,fun b hb=> ?_,e.nxt,e.unborn,fun q ob hq hf=> ?_,fun b l hb hl=> ?_,?_,e.os,e.tape,e.output,e.still⟩
     ·rw [←e.new b hb];rw [Xa,As (by omega)]
     ·have:=e.frame q ob hq hf
      grind
     ·rw [Xa] at hl;by_cases hbk:b=(f k).next
      ·rw [Av hbk] at hl;obtain rfl:=Ac hl;exact .inl e.size
      ·rw [As hbk] at hl;exact e.fresh b l hb hl
     ·have:=e.size;simp;omega
    refine ih _ p _ _ _ dZ hcnt' ⟨dR,by rw [Act.put_defers'];exact I.defers,by cases h:o.dst <;> simp [Act.put,I.tsz],d1,d2,I.ple,I.past,fun q x hq hx hc=> ?_,cW,ev',fun k1 q o1 x b ab c1 c2 c3 c4 c5 c6 c7 c8=>notcalm (by rcases hkd with h | h <;> rw [h] <;> exact fun h=>by cases h) (by rcases hkd with h | h <;> rw [h] <;> exact fun h=>by cases h) (calms k1 q o1 x c1 c2 c3 c4 c5 c6 c7 c8),fun q x hq hx hnw hs=> ?_⟩
    ·have hne:at_ ops q≠at_ ops k:=fun e=>by
      rw [e,ho] at hx;obtain rfl:=Ac hx;rcases hc with h | h <;> rcases hkd with h' | h' <;> rw [h] at h' <;> cases h'
     rw [hS]
     simpa [hne] using I.chain q x hq hx hc
    ·rw [hS] at hs;simp only [AY] at hs;obtain ⟨m1,m2,m3,m4⟩:=I.allocs q x hq hx hnw hs.1;refine ⟨m1,m2,?_,m4⟩;have hne:(f q).next ≠(f k).next :=by
      have hqk:q≠k:=fun e=>by grind
      have up: ∀q x,q<ops.size→ops[at_ ops q]? =some x→z0z z x→(f (q+1)).next =(f q).next +1:=by intro q x hq hx hn;obtain ⟨x',hx',s'⟩:=g.step' hq;rw [hx] at hx';obtain rfl:=Ac hx';obtain ⟨_,_,_,h6,_⟩:=s'.fresh (g.ob _ (by omega)) hn (g.chk.guard _ x hx hn);exact h6
      rcases A0 q k with h | h | h
      ·have h1:=up q x hq hx hnw;have h2:=g.next_le (a:=q+1) (b:=k) (by omega) (by omega);omega
      ·grind
      ·have h1:=up k o hk ho hkd;have h2:=g.next_le (a:=k+1) (b:=q) (by omega) (by omega);omega
     grind [Xa]
   ·-- the next one that may write
    obtain ⟨hpk,hch⟩:=I.next_chain g hk ho hns cL hkd;obtain ⟨e1,e2⟩:=g.mem_stays hpk (by omega) fun q x h1 h2 hx=>by
     rcases y3c z x with h | h | h | h
     ·exact .inl h
     ·exact .inr h
     ·have:=I.past q x (by omega) hx h;omega
     ·have:=(I.chain q x (by omega) hx h).1 ((hch q x (by omega) hx h).2 h2);omega
    have cD:Rel ρ (f k).mem (f k).next w:=by rw [e1,e2];exact I.rel
    refine finish (q:=True) (s.does hob hkd ρ a w (f k).eval I.tsz (fun _ _=>rfl) hguard hops cD _ _ fun ρ' u w' cR cW hev hlate=> ?_);obtain ⟨d1,d2⟩:=I.slots g hk ho hns hev.ext cR hS;have hev0:=hev;rw [e1,e2] at hev;refine ih _ (k+1) ρ' _ w' dZ hcnt' ⟨dR,by rw [Act.put_defers'];exact I.defers,by cases h:o.dst <;> simp [Act.put,I.tsz],d1,d2,by omega,fun q x hq hx hc=>by have:=I.past q x hq hx hc;omega,fun q x hq hx hc=> ?_,cW,I.ev.trans hev,fun k1 q o1 x b ab c1 c2 c3 c4 c5 c6 c7 c8 c9 c10=> ?late,fun q x hq hx hnw hs=> ?_⟩
    case late=>
     by_cases hqk:q=k
     ·subst hqk;rw [ho] at c5;obtain rfl:=Ac c5;exact y6l cD cW hev0 c10 fun l hl=>hlate b ab l c9 c10 hl
     ·have hqs:=(hch q x c3 c5 c7).2 (by omega);have hqp:=(I.chain q x c3 c5 c7).1 hqs;exact notcalm (by rcases hkd with h | h <;> rw [h] <;> exact fun h=>by cases h) (by rcases hkd with h | h <;> rw [h] <;> exact fun h=>by cases h) (calms k1 q o1 x c1 hqp c3 c4 c5 c6 c7 c8)
    ·rw [hS];by_cases hqk:q=k
     ·grind
     ·have hne:at_ ops q≠at_ ops k:=fun e=>by
       rcases AS q k with h | h
       ·grind
       ·rcases Jc (ops:=ops) (k1:=k) (k2:=q) (by omega) hq with ⟨h3,h4⟩ | ⟨_,h4⟩;all_goals grind
      have:=hch q x hq hx hc;simp only [beq_eq_false_iff_ne.2 hne,Bool.or_false];rw [this];omega
    ·rw [hS] at hs;simp only [AY] at hs;obtain ⟨m1,m2,m3,m4⟩:=I.allocs q x hq hx hnw hs.1;obtain ⟨x',hx',s'⟩:=g.step' hq;rw [hx] at hx';obtain rfl:=Ac hx';obtain ⟨cells,ty,hm1,_,_⟩:=s'.fresh (g.ob _ (by omega)) hnw (g.chk.guard _ x hx hnw);have e0:Ze (f (q+1)).mem (f q).next =some ⟨cells,ty,none⟩:=by rw [hm1,Zq]
     rw [e0] at m4;refine ⟨m1,AG m2 hev.nxt,by rw [hev.new _ m2];exact m3,by rw [e0];exact hev.unborn _ m2 m3 _ _ m4⟩
theorem x0u (g:Reg Sp z P ops cx st f) {ρ:Rho} {a:Act} {w:World} (hd:a.defers=D) (cH:Xz ρ st.env cx.n a.tmps) (cD:Rel ρ st.mem st.next w):
  ∃p,Inv z P D ops cx st f ρ w (fun i=>(Array.replicate ops.size false).getD i false) p ρ a w:=by
 have hf: ∀i,(Array.replicate ops.size false).getD i false=false:=fun i=>by
  by_cases h:i<ops.size;all_goals simp_all
 have hA: ∃p,p≤ops.size∧(∀k o,k<ops.size→ops[at_ ops k]? =some o→z0z z o→k<p)∧(p=0∨ ∃o,ops[at_ ops (p - 1)]? =some o∧z0z z o):=by
  have: ∀n,n≤ops.size→ ∃p,p≤n∧(∀k o,k<n→ops[at_ ops k]? =some o→z0z z o→k<p)∧(p=0∨ ∃o,ops[at_ ops (p - 1)]? =some o∧z0z z o):=by
   intro n
   induction n with
   | zero=>grind
   | succ n ih=>
    intro hn;obtain ⟨p,hp,hk,dN⟩:=ih (by omega);have hlt:=x4w (ops:=ops) (k:=n) (by omega);have hx:ops[at_ ops n]? =some ops[at_ ops n]:=(by simp [hlt]);by_cases e:z0z z ops[at_ ops n]
    ·exact ⟨n+1,Aj _,fun k o h _ _=>h,.inr ⟨_,hx,e⟩⟩
    ·refine ⟨p,by omega,fun k o h ho hnw=> ?_,dN⟩;by_cases hkn:k=n
     ·grind
     ·exact hk k o (by omega) ho hnw
  simp_all
 obtain ⟨p,hp,hpk,dN⟩:=hA;have noch: ∀k o,k<p→ops[at_ ops k]? =some o→ ¬Vi z o:=by
  intro k o hk ho hc;rcases dN with h0 | ⟨x,hx,hnw⟩
  ·omega
  ·by_cases hkp:k=p - 1
   ·rw [←hkp,ho] at hx;obtain rfl:=Ac hx;rcases hc with h | h <;> rcases hnw with h' | h' <;> rw [h] at h' <;> cases h'
   ·have nal:isAlloc ops (at_ ops k)=false:=by
     cases e:isAlloc ops (at_ ops k) with
     | false=>rfl
     | true=>
      have:=(Xt (z:=z) ho).1 e;rcases hc with h | h <;> rw [h] at this <;> cases this
    rcases Jc (ops:=ops) (k1:=k) (k2:=p - 1) (by omega) (by omega) with ⟨h3,_⟩ | ⟨h3,h4⟩
    ·grind
    ·rw [nal] at h3;rcases hnw with hnw | hnw
     ·grind [Xt]
     ·exact g.chk.birth _ _ _ _ h4 ho hx hnw hc
 have stepAt: ∀k,k<p→((f (k+1)).mem =(f k).mem ∧(f (k+1)).next =(f k).next)∨ ∃cells ty,(f (k+1)).mem =Ya (f k).mem (f k).next (some ⟨cells,ty,none⟩)∧(f (k+1)).next =(f k).next +1:=by
  intro k hk;obtain ⟨o,ho,s⟩:=g.step' (k:=k) (by omega);rcases y3c z o with h | h | h | h
  ·exact .inl (s.stay (by rcases h with h | h <;> simp [h]))
  ·exact .inl (s.stay (.inr (.inl h)))
  ·obtain ⟨cells,ty,h1,h2,_⟩:=s.fresh (g.ob _ (by omega)) h (g.chk.guard _ o ho h)
   grind
  grind
 have start: ∀k,k≤p→Rel ρ (f k).mem (f k).next w∧Ev ρ ρ cx.floor st.mem st.next (f k).mem (f k).next w w:=by
  intro k
  induction k with
  | zero=>intro _;rw [g.f0];exact ⟨cD,Ev.refl _ _ _ _ _ cD.dom⟩
  | succ k ih=>
   intro hk;obtain ⟨hr,he⟩:=ih (by omega);rcases stepAt k (by omega) with ⟨h3,h4⟩ | ⟨cells,ty,h3,h4⟩
   ·grind
   ·rw [h3,h4];refine ⟨hr.unborn _,he.trans ⟨Rho.le_refl _,fun _ _=>rfl,Br _,fun b hb _ cs ty hm=>by grind [Zy],fun _ _ h _=>h,fun b l hb hl=>by have:=hr.dom b l hl;omega,Aj _,rfl,rfl,rfl,fun _ _=>rfl⟩⟩
 have later: ∀k k',(f (k+1)).next =(f k).next +1→k<k'→k'≤p→(f k).next <(f k').next ∧Ze (f k').mem (f k).next =Ze (f (k+1)).mem (f k).next :=by
  intro k k' hk1 hk
  induction k' with
  | zero=>omega
  | succ k' ih=>
   intro hk';by_cases e:k=k'
   ·grind
   ·obtain ⟨h1,h2⟩:=ih (by omega) (by omega);rcases stepAt k' (by omega) with ⟨h3,h4⟩ | ⟨cells,ty,h3,h4⟩;all_goals grind [Zy]
 obtain ⟨hrp,hep⟩:=start p (Aj _);refine ⟨p,?_,hd,cH.size,?_,?_,hp,hpk,?_,hrp,hep,fun k q o x b ab _ hqp _ _ hx _ hc=>absurd hc (noch q x hqp hx),?_⟩
 ·intro j o _ hs;grind
 ·grind
 ·intro t _;exact cH.get t
 ·grind
 ·intro k o hk ho hnw _;have hkp:k<p:=hpk k o hk ho hnw;obtain ⟨o',ho',s⟩:=g.step' (k:=k) hk;rw [ho] at ho';obtain rfl:=Ac ho';obtain ⟨cells,ty,h3,h4,_⟩:=s.fresh (g.ob _ (by omega)) hnw (g.chk.guard _ o ho hnw);obtain ⟨h5,h6⟩:=later k p h4 hkp (Aj _);have hge:st.next≤(f k).next :=by have:=g.next_le (a:=0) (b:=k) (AF _) (by omega);rw [g.f0] at this;exact this
  refine ⟨hge,h5,?_,h6⟩;cases e:ρ (f k).next with
  | none=>rfl
  | some l=>have:=cD.dom _ l e;omega
theorem z0s {S:Specs} {R:Runner} (hN:Qa P) (hS:Zk P S) (hRI:y5w R) (hR:ROk P R) {st':St} (hcx:cx.floor≤st.next) (cX:z5h z ops=true)
  (h:z1s z P S R ops cx (Un ops) [] st=some st') (ho:st'.ob=true) {ρ:Rho} {a:Act} {w:World} (hd:a.defers=D) (cH:Xz ρ st.env cx.n a.tmps) (cD:Rel ρ st.mem st.next w):
  wpAny P .any ops (Fin D ρ cx st st' w) ops.size (Array.replicate ops.size false) a w:=by
 obtain ⟨f,f0,fn,fs,_,fp⟩:=Js (Un ops) [] st st' h;have cE:(Un ops).length =ops.size:=by simp [Un,Yu]
 rw [cE] at fn;have dB: ∀(k:Nat) (hk:k<(Zm ops).length),cx.floor≤(f k).next →x5b S z P ops cx (Ki ops (Zm ops)[k],ops.getD (Zm ops)[k] default) (f k) (f (k+1)):=by
  grind [Un,y6g]
 have hnx: ∀k,k≤ops.size→cx.floor≤(f k).next :=by
  intro k
  induction k with
  | zero=>grind
  | succ k ih=>intro hk;have hc:=ih (by omega);exact AJ hc (dB k (by rw [Yu];omega) hc).inv.nxt
 have hob: ∀k,k≤ops.size→(f (ops.size - k)).ob =true:=by
  intro k
  induction k with
  | zero=>grind
  | succ k ih=>
   intro hk;have hk':ops.size - (k+1)<(Zm ops).length :=by rw [Yu];omega
   have s:=dB _ hk' (hnx _ (by omega));refine s.inv.ob ?_
   grind
 have g:Reg S z P ops cx st f:=⟨z0d cX,f0,hcx,fun k hk=>by
  have:=hob (ops.size - k) (by omega);rwa [show ops.size - (ops.size - k)=k by omega] at this,fun k hk=>dB k hk (hnx k (by rw [Yu] at hk;omega)),fun q k hq hk=>by
   have:=fp q k hq (by grind [Yu]);simp_all [Un]⟩
 obtain ⟨p,I⟩:=x0u g hd cH cD;have:=x4p g cH.out cD.bd ops.size (Array.replicate ops.size false) p ρ a w (by simp) (by
  rw [List.countP_eq_length.2];all_goals simp_all) I
 grind
theorem z7f {S:Specs} {R:Runner} (hRI:y5w R): ∀(l:List (Bool×Oper)) (st st':St),y4w P S R ops cx l st=some st'→Yw cx.floor st st'
 | [],st,st',h=>by
  have h:some st=some st':=h
  grind [Yw.refl]
 | x::l,st,st',h=>by
  rw [z4h,Option.bind_eq_some_iff] at h;obtain ⟨st1,h1,h2⟩:=h;refine Yw.trans ?_ (z7f hRI l st1 st' h2);unfold z7x at h1;split at h1
  ·cases h1
  ·rename_i st2 hw;obtain ⟨w1,w2,w3⟩:=Ye hw;refine (Yw.same w1 w2 fun h=>(w3 h).1).trans ?_;unfold z4j at h1;split at h1
   ·split at h1
    ·rename_i st3 ho;obtain ⟨_,e2,e3,e4⟩:=Yp ho;obtain ⟨p1,p2,p3,_⟩:=Ys h1;exact (Yw.same e2 e3 fun h=>(e4 h).2).trans (Yw.same p1 p2 fun h=>by rw [←p3];exact h)
    ·cases h1
   ·split at h1
    ·rename_i v st3 he;obtain ⟨p1,p2,p3,_⟩:=Ys h1;exact (z5z hRI he).1.trans (Yw.same p1 p2 fun h=>by rw [←p3];exact h)
    ·cases h1
  ·rename_i st2 hw;obtain ⟨w1,w2,w3⟩:=Ye hw;obtain ⟨p1,p2,p3,_⟩:=Ys h1;exact (Yw.same w1 w2 fun h=>(w3 h).1).trans (Yw.same p1 p2 fun h=>by rw [←p3];exact h)
theorem y9b {S:Specs} {R:Runner} (hRI:y5w R) {x:Bool×Oper} {st st':St} (h:y1r z P S R ops cx x st=some st'):Yw cx.floor st st':=by
 unfold y1r at h;cases hz:y3g z x.2.op with
 | false=>
  rw [hz,Ai] at h;cases hz2:isBirth z x.2.op with
  | true=>
   rw [hz2,Ap] at h;split at h
   ·cases h
   ·rename_i st2 hw;obtain ⟨w1,w2,w3⟩:=Ye hw;unfold z5r at h;split at h
    ·split at h
     ·obtain ⟨p1,p2,p3,_⟩:=Ys h;exact ((Yw.same w1 w2 fun h=>(w3 h).1).trans (Yw.new _ _ _)).trans (Yw.same p1 p2 fun h=>by grind)
     ·cases h
    ·cases h
   ·rename_i st2 hw;obtain ⟨w1,w2,w3⟩:=Ye hw
    grind [Ys,Yw.same]
  | false=>rw [hz2,Ai] at h;exact z7f hRI [x] st st' (by rw [z4h,h];rfl)
 | true=>
  rw [hz,Ap] at h;split at h
  ·cases h
  ·rename_i st2 hw;obtain ⟨w1,w2,w3⟩:=Ye hw
   grind [y2w,Ys,Yw.same]
  ·rename_i st2 hw;obtain ⟨w1,w2,w3⟩:=Ye hw
   grind [Ys,Yw.same]
theorem z4i {S:Specs} {R:Runner} (hRI:y5w R) (l:List (Nat×Bool×Oper)) (acc:List Foot) (st st':St) (h:z1s z P S R ops cx l acc st=some st'):Yw cx.floor st st':=by
 obtain ⟨f,f0,fn,fs,_,_⟩:=Js l acc st st' h;have: ∀k,k≤l.length→Yw cx.floor st (f k):=by
  intro k
  induction k with
  | zero=>intro _;rw [f0];exact Yw.refl _ _
  | succ k ih=>
   intro hk;refine (ih (by omega)).trans ?_
   grind [y9b]
 grind
end
section
variable {P:Program}
theorem z9w {H:Old} {w:World} (hH: ∀k o,H k=some o→w.heap[k]? =some o) (hG:Glob H):Rel (Jn H) .leaf 0 w:=
 ⟨(fun b l h=>by cases h),(fun b b' l l' h=>by cases h),(fun b l ab h=>by cases h),hH,(fun b l h=>by cases h),(fun b l h=>by cases h),(fun b _=>rfl),(fun j l h=>by cases h),hG⟩
structure Out (H:Old) (w:World) (ρ:Rho) (v:AVal) (u:Value) (w':World):Prop where
 val:Zj ρ v u
 le: ∀k o,H k=some o→ρ.fz k=some o
 old: ∀k o,ρ.fz k=some o→w'.heap[k]? =some o
 same: ∀k,k<w.heap.size→ρ.fz k=H k
 below:RowKit.Below w.heap.size w w'
theorem out_of {H:Old} {w w':World} {ρ:Rho} {v:AVal} {u:Value} {mem:Mem} {next floor:Nat} (hv:Zj ρ v u) (hr:Rel ρ mem next w') (hev:Ev (Jn H) ρ floor .leaf 0 mem next w w'):Out H w ρ v u w':=
 ⟨hv,hev.ext.2.1,hr.old,hev.still,hev.os,hev.tape,hev.output,hev.size,fun k hk=>by
  have:w.heap[k]? =some w.heap[k]:=by simp [hk]
  rw [this];exact hev.frame k _ this fun b l hl=>by cases hl⟩
def noSpecs :Specs:=fun _=>none
theorem y7f :Zk P noSpecs:=fun f F h=>by cases h
end
end Go.Am
end
