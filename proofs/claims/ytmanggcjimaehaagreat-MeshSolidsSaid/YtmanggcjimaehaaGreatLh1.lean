/- A part of a proof: several texts in one. -/
import Derived.Test.YtmanggcjimaehaaGreatLh0
import Derived.IntWalk
set_option maxRecDepth 1000000
set_option maxHeartbeats 8000000
set_option linter.unusedVariables false
set_option linter.unusedSimpArgs false
noncomputable section
namespace Go.Am
open IntKind (wrap)
section
variable {P:Program} {ρ:Rho}
theorem z7j {t u e:TypeId} {ut:TypeDesc} {i:TypeInfo} {type:TypeId} (hu:P.underlying t=some (.slice e)) (hut:P.underlying u=some ut) (hni: ∀k,ut≠ .int k) (hi:P.info? e=some i) {ts:List TypeId} {base:Option Addr} {len n c:Nat} {x:Value} {vs:Array Value} {xs:List Value} {w:World}
  (cT:(Builtin.lenOf x).run P w=.ok n w) (dP:(Builtin.firstCells i.size n x).run P w=.ok vs w) (dD:len+n≤c) {w':World}
  (hst: ∀a,base=some a→(storeCells (a.add (len*i.size)) vs.toList).run P w=.ok () w') (hno:base=none→w'=w):
  (Builtin.append_ (t::u::ts).toArray type ((.slice base len c)::x::xs).toArray).run P w=.ok (.slice base (len+n) c) w':=by
 cases base with
 | none=>obtain rfl:=hno rfl;simp [Builtin.append_,run_underlying hu,run_underlying hut,Zi hi,cT,dP,dD]
 | some a=>have:=hst a rfl;simp [Builtin.append_,run_underlying hu,run_underlying hut,Zi hi,cT,dP,dD,this]
theorem z5t {t u e:TypeId} {ut:TypeDesc} {i:TypeInfo} {type:TypeId} (hu:P.underlying t=some (.slice e)) (hut:P.underlying u=some ut) (hni: ∀k,ut≠ .int k) (hi:P.info? e=some i) {z:Value} (hz:i.zero=some z) {ts:List TypeId} {base:Option Addr} {len n c:Nat} {x:Value} {vs old:Array Value} {xs:List Value} {w:World}
  (cT:(Builtin.lenOf x).run P w=.ok n w) (dP:(Builtin.firstCells i.size n x).run P w.drew=.ok vs w.drew) (hold:(Builtin.firstCells i.size len (.slice base len c)).run P w.drew=.ok old w.drew)
  (dD:c<len+n) (eC:(len+n+1)*(i.bytes+1)≤1099511627776):
  ∃newCap,len+n≤newCap∧ ∃rest:Array Value,rest.size=(newCap - (len+n))*z.cells.size∧
  (Builtin.append_ (t::u::ts).toArray type ((.slice base len c)::x::xs).toArray).run P w=.ok (.slice (some ⟨w.heap.size,0,none⟩) (len+n) newCap) (w.drew.alloc (.cells (old++vs++rest) e)):=by
 have fG:len+n+1≤(len+n+1)*(i.bytes+1):=Nat.le_mul_of_pos_right _ (by omega);have hr:=v0x eC dD;have hr': ¬2 ^ 48<Builtin.nextslicecap (len+n) c*i.bytes:=hr;have hr'': ¬281474976710656<Builtin.nextslicecap (len+n) c*i.bytes:=hr;have h1: ¬len+n≤c:=by omega
 have h2: ¬(9223372036854775807<(len:Int)+(n:Int)):=by omega
 have hq:(Question.appendCap (len+n) c e).forced =false:=rfl;have hzero: ∀w,(zeroValue e).run P w=.ok z w:=fun w=>by simp [zeroValue,run_typeInfo w hi,hz]
 refine ⟨(Question.appendCap (len+n) c e).cut (w.tape w.drawn (Question.appendCap (len+n) c e)),by simp only [Question.cut];omega,Builtin.zeroCells z.cells ((Question.appendCap (len+n) c e).cut (w.tape w.drawn (Question.appendCap (len+n) c e)) - (len+n)),by simp [Builtin.zeroCells],?_⟩;have hty: ∀w,(typeInfo e).run P w=.ok i w:=fun w=>run_typeInfo w hi;simp [Builtin.append_,run_underlying hu,run_underlying hut,Zi hi,cT,h1,h2,hty,hr'',hq,dP,hold,hzero,newRow]
theorem Vr.append {a b:List AVal} {us vs:Array Value} (h:Vr ρ a us) (k:Vr ρ b vs):Vr ρ (a++b) (us++vs):=by
 refine ⟨by simp [h.1,k.1],fun i h1 h2=> ?_⟩;by_cases hi:i<a.length
 ·rw [BA hi,Array.getElem_append_left (by rw [←h.1];exact hi)];exact h.2 i hi (by rw [←h.1];exact hi)
 ·rw [BK (by omega),Array.getElem_append_right (by rw [←h.1];omega)];have e:=h.1;simp only [e];exact k.2 (i - us.size) (by simp at h1;omega) (by simp at h2;omega)
theorem z5f {st:St} {w:World} (h:Rel ρ st.mem st.next w) (floor:Nat) {cs:List AVal} {vs:Array Value} (hr:Vr ρ cs vs) (rest:Array Value) (ty el:TypeId) (v:AVal) (u:Value)
  (dK: ∀ρ',ρ' st.next=some ⟨w.heap.size,0,cs.length,vs.size+rest.size⟩→Yy ρ' v u):
  x2l ρ floor st (y0i st cs ty) v w (Vd ρ st.next ⟨w.heap.size,0,cs.length,vs.size+rest.size⟩) u (w.drew.alloc (.cells (vs++rest) el)):=by
 have hd:Rel ρ st.mem st.next w.drew:=h.drawn _
 have:=z5e hd floor cs ty (vs++rest) el (by rw [hr.1];simp) (fun i h1 h2=>by
  rw [Array.getElem_append_left (by rw [←hr.1];exact h1)];exact hr.2 i h1 (by rw [←hr.1];exact h1)) v u (fun ρ' hρ'=>dK ρ' (by simpa using hρ'))
 simp only [BQ] at this;exact ⟨this.val,this.rel,this.ev.drawn⟩
theorem Qt {α:Type} {c:Bool} {x:Option α} {y:α} (h:(bif c then x else none)=some y):c=true∧x=some y:=by
 cases c with
 | false=>cases h
 | true=>exact ⟨rfl,h⟩
structure u1z (P:Program) (ρ:Rho) (t u e:TypeId) (i:TypeInfo) (z:Value) (ux:Value) (n:Nat) (new:List AVal) (vs:Array Value) (w:World):Prop where
 rel:Vr ρ new vs
 hin: ∀{type:TypeId} {ts:List TypeId} {base:Option Addr} {len c:Nat} {xs:List Value},(n=0∨(n+1)*(i.bytes+1)≤1099511627776)→len+n≤c→ ∀{w':World},(∀a,base=some a→(storeCells (a.add (len*i.size)) vs.toList).run P w=.ok () w')→(base=none→w'=w)→
  (Builtin.append_ (t::u::ts).toArray type ((.slice base len c)::ux::xs).toArray).run P w=.ok (.slice base (len+n) c) w'
 hnew: ∀{type:TypeId} {ts:List TypeId} {base:Option Addr} {len c:Nat} {xs:List Value} {old:Array Value},(Builtin.firstCells i.size len (.slice base len c)).run P w.drew=.ok old w.drew→c<len+n→(len+n+1)*(i.bytes+1)≤1099511627776→
  ∃newCap,len+n≤newCap∧ ∃rest:Array Value,rest.size=(newCap - (len+n))*z.cells.size∧
   (Builtin.append_ (t::u::ts).toArray type ((.slice base len c)::ux::xs).toArray).run P w=.ok (.slice (some ⟨w.heap.size,0,none⟩) (len+n) newCap) (w.drew.alloc (.cells (old++vs++rest) e))
theorem y7k {n:Int} {bytes:Nat} (h0:0≤n) (h:n.toNat=0∨(n.toNat+1)*(bytes+1)≤1099511627776):IntKind.i64.wrap n=n∧n*(bytes:Int)≤281474976710656:=by
 rcases h with h | h
 ·obtain rfl:n=0:=by omega
  exact ⟨rfl,by omega⟩
 ·have h1:n.toNat+1≤(n.toNat+1)*(bytes+1):=Nat.le_mul_of_pos_right _ (by omega);have h2:n.toNat*bytes≤(n.toNat+1)*(bytes+1):=Cp (by omega) (by omega);refine ⟨IntWalk.i64_in _ (by omega),?_⟩;have h3:((n.toNat*bytes:Nat):Int)≤1099511627776:=by omega
  rw [Int.natCast_mul,Int.toNat_of_nonneg h0] at h3;omega
theorem Jj {mem:Mem} {next:Nat} {w:World} (h:Rel ρ mem next w) {t u e:TypeId} {ut:TypeDesc} {i:TypeInfo} {z:Value} {zero:List AVal} {x:AVal} {ux:Value} {n:Nat} {new:List AVal} (hu:P.underlying t=some (.slice e)) (hut:P.underlying u=some ut) (hi:P.info? e=some i) (hz:i.zero=some z)
  (hzr:Vr ρ zero z.cells) (hzl:zero.length=i.size) (hc:Uy mem i.size zero ut x=some (n,new)) (hx:Yy ρ x ux) (hnl:new.length=n*i.size): ∃vs,u1z P ρ t u e i z ux n new vs w:=by
 unfold Uy at hc;split at hc
 ·rename_i kt;split at hc
  ·rename_i k m;obtain ⟨h0,hc⟩:=Qt hc;have h0:=AC h0;simp only [Ae,Ad] at hc;obtain ⟨rfl,rfl⟩:=hc;cases hx;have hzs:z.cells.size=i.size:=by rw [←hzr.1];exact hzl
   refine ⟨Builtin.zeroCells z.cells m.toNat,?_,?_,?_⟩
   ·exact z9m hzr m.toNat (m.toNat*z.cells.size) (by rw [hzr.1])
   ·intro type ts base len c xs hr dD w' hst hno;obtain ⟨hw,hb⟩:=y7k h0 hr;have hb': ¬281474976710656<m*(i.bytes:Int):=(by omega);have hlt: ¬m<0:=(by omega);have hzv: ∀w,(zeroValue e).run P w=.ok z w:=fun w=>by simp [zeroValue,run_typeInfo w hi,hz]
    have hty: ∀w,(typeInfo e).run P w=.ok i w:=fun w=>run_typeInfo w hi;by_cases hz0:m.toNat*i.size=0
    ·have hze:Builtin.zeroCells z.cells m.toNat= #[]:=(by simp [Builtin.zeroCells,hzs,hz0]);rw [hze] at hst;cases base with
     | none=>obtain rfl:=hno rfl;simp [Builtin.append_,run_underlying hu,run_underlying hut,Zi hi,asInt,asIntOf,hw,hlt,hty,hb',dD,hz0]
     | some a=>have:=hst a rfl;simp only [] at this;simp [Builtin.append_,run_underlying hu,run_underlying hut,Zi hi,asInt,asIntOf,hw,hlt,hty,hb',dD,hz0,this]
    ·cases base with
     | none=>obtain rfl:=hno rfl;simp [Builtin.append_,run_underlying hu,run_underlying hut,Zi hi,asInt,asIntOf,hw,hlt,hty,hb',dD,hz0,hzv]
     | some a=>have:=hst a rfl;simp [Builtin.append_,run_underlying hu,run_underlying hut,Zi hi,asInt,asIntOf,hw,hlt,hty,hb',dD,hz0,hzv,this]
   ·intro type ts base len c xs old hold dD eC;have hr:m.toNat=0∨(m.toNat+1)*(i.bytes+1)≤1099511627776:=.inr (AL (AJ _ (by omega)) eC);obtain ⟨hw,hb⟩:=y7k h0 hr;have hb': ¬281474976710656<m*(i.bytes:Int):=(by omega);have hlt: ¬m<0:=(by omega);have fG:len+m.toNat+1≤(len+m.toNat+1)*(i.bytes+1):=Nat.le_mul_of_pos_right _ (by omega);have hr0:=v0x eC dD;have hr'': ¬281474976710656<Builtin.nextslicecap (len+m.toNat) c*i.bytes:=hr0;have h1: ¬len+m.toNat≤c:=(by omega);have h2: ¬(9223372036854775807<(len:Int)+(m.toNat:Int)):=(by omega);have h2': ¬(9223372036854775807<(len:Int)+max m 0):=(by omega);have hq:(Question.appendCap (len+m.toNat) c e).forced =false:=rfl;have hzv: ∀w,(zeroValue e).run P w=.ok z w:=fun w=>by simp [zeroValue,run_typeInfo w hi,hz]
    have hty: ∀w,(typeInfo e).run P w=.ok i w:=fun w=>run_typeInfo w hi;refine ⟨(Question.appendCap (len+m.toNat) c e).cut (w.tape w.drawn (Question.appendCap (len+m.toNat) c e)),by simp only [Question.cut];omega,Builtin.zeroCells z.cells ((Question.appendCap (len+m.toNat) c e).cut (w.tape w.drawn (Question.appendCap (len+m.toNat) c e)) - (len+m.toNat)),by simp [Builtin.zeroCells],?_⟩;by_cases hz0:m.toNat*i.size=0
    ·have hze:Builtin.zeroCells z.cells m.toNat= #[]:=(by simp [Builtin.zeroCells,hzs,hz0]);simp [Builtin.append_,run_underlying hu,run_underlying hut,Zi hi,asInt,asIntOf,hw,hlt,hb',h1,h2,h2',hty,hr'',hq,hold,hzv,newRow,hz0,hze]
    ·simp [Builtin.append_,run_underlying hu,run_underlying hut,Zi hi,asInt,asIntOf,hw,hlt,hb',h1,h2,h2',hty,hr'',hq,hold,hzv,newRow,hz0]
  ·cases hc
 ·rename_i hni';have hni: ∀k,ut≠ .int k:=fun k hk=>hni' k hk;obtain ⟨cT,dP⟩:=Wt (P:=P) h hc hx hnl;obtain ⟨vs,hvs,hfc⟩:=dP n (Ao _);rw [AP (by omega)] at hvs;have eG:(Builtin.firstCells i.size n ux).run P w=.ok vs w:=hfc w.drawn;have hfc1:(Builtin.firstCells i.size n ux).run P w.drew=.ok vs w.drew:=hfc (w.drawn+1);exact ⟨vs,hvs,fun _ dD _ hst hno=>z7j hu hut hni hi (cT w) eG dD hst hno,fun hold dD eC=>z5t hu hut hni hi hz (cT w) hfc1 hold dD eC⟩
theorem x3p {w:World} {x:Obj} {n:Nat} {k:Nat} {o:Obj} (h:w.heap[k]? =some o):(World.alloc {w with drawn:=n} x).heap[k]? =some o:=by have:k<w.heap.size:=(AM.1 h).1;show (w.heap.push x)[k]? =some o;simp only [Bm,A6 this,Cr];exact h
theorem x6o {w:World} {k:Nat} {cur:Array Value} {el:TypeId} {vs:List Value} {m:Nat} (hw:w.heap[k]? =some (.cells cur el (0,0))) (hm:m+vs.length≤cur.size):
  ∃cs1,(w.setRow k (cur.toList.take m++vs++cur.toList.drop (m+vs.length)).toArray).heap[k]? =some (.cells cs1 el (0,0))∧cs1.size=cur.size∧ ∀j,j<m→cs1[j]? =cur[j]? :=by
 have hc:cur.toList.length=cur.size:=B2;refine ⟨_,setRow_heap w k cur _ el (0,0) hw,by simp;omega,fun j hj=> ?_⟩;rw [B6,AH,Bv (by simp;omega),List.getElem?_take_of_lt hj,Array.getElem?_toList]
def j5a (ρ:Rho) (m:Mem) (xs:List AVal) (w w':World):Prop:=
 (∀(b off len z b2 o2 n2:Nat) (c2:w8q) (r:List AVal) (blk:ABlk) (l:Loc),xs=.sl b off len (.un z)::.sl b2 o2 n2 c2::r→1≤n2→Yf m b=some blk→off+len*z=blk.cells.length→ρ b=some l→Ux ρ w' blk l)∧
 ∀r:List AVal,xs=.nils ::r→ ∀(k:Nat) (o:Obj),w.heap[k]? =some o→w'.heap[k]? =some o
theorem x8k {m:Mem} {sz:Nat} {zero:List AVal} {ut:TypeDesc} {b o n2:Nat} {c:w8q} {n:Nat} {new:List AVal} (h:Uy m sz zero ut (.sl b o n2 c)=some (n,new)):n=n2:=by
 have key:Xz m sz (.sl b o n2 c)=some (n,new)→n=n2:=fun h=>by
  simp only [Xz] at h;cases hm:Yf m b with
  | none=>rw [hm] at h;cases h
  | some blk=>rw [hm] at h;simp only [An,Ad] at h;obtain ⟨_,_,e,_⟩:=h;exact e.symm
 cases ut <;> first | exact key h | (cases h;done)
theorem z0a {st st':St} {w:World} (h:Rel ρ st.mem st.next w) (floor:Nat) {ts:Array TypeId} {type:TypeId} {xs:List AVal} {us:Array Value} {v:AVal} (ha:z0n P floor st ts.toList xs=some (v,st')) (hx:Wr (Yy ρ) xs us.toList):
  ∃ρ' u w',(Builtin.append_ ts type us).run P w=.ok u w'∧x2l ρ floor st st' v w ρ' u w'∧(st'.env=st.env∧st'.ob=st.ob)∧j5a ρ st.mem xs w w':=by
 obtain ⟨ts⟩:=ts;obtain ⟨us⟩:=us;simp only at ha hx;unfold z0n at ha;split at ha
 ·rename_i t tu tts s x txs;cases hx with
  | @cons _ su _ _ hs hx=>
   cases hx with
   | @cons _ ux _ uxs hx _=>
    split at ha
    ·rename_i e ut hu hut;split at ha
     ·rename_i i zero hi hz;split at ha
      ·rename_i n new hcs;obtain ⟨i2,z,hi2,hz2,hzr,_⟩:=Wv (ρ:=ρ) hz;obtain rfl:i=i2:=by rw [hi] at hi2;exact Af hi2
       cases hc:(Nat.beq zero.length i.size&&Nat.beq new.length (n*i.size)&&Nat.ble 1 i.size&&new.all z9y) with
       | false=>rw [hc] at ha;cases ha
       | true =>
        rw [hc,Ab] at ha;simp only [Ac] at hc;obtain ⟨⟨⟨hzl,hnl⟩,hsz⟩,hsc⟩:=hc;have hzl:=Aj hzl;have hnl:=Aj hnl;have hsz:=Ak hsz;have hzs:z.cells.size=i.size:=by rw [←hzr.1];exact hzl
        obtain ⟨vs,hF⟩:=Jj (P:=P) h hu hut hi hz2 hzr hzl hcs hx hnl;have hvs:=hF.rel;have hvsz:vs.size=n*i.size:=by rw [←hvs.1];exact hnl
        have dS:=Yy.cells_oneCell hvs hsc;split at ha
        ·-- nil
         cases hs;cases hn0:Nat.beq n 0 with
         | true=>rw [hn0,Ab] at ha;simp only [Ae,Ad] at ha;obtain ⟨rfl,rfl⟩:=ha;have hn0:=Aj hn0;subst hn0;have cU:=hF.hin (type:=type) (ts:=tts) (base:=none) (len:=0) (c:=0) (xs:=uxs) (.inl rfl) (Ao _) (w':=w) (fun a e=>by cases e) (fun _=>rfl);exact ⟨ρ,_,w,cU,⟨.nils,h,Ev.refl _ _ _ _ _ h.dom⟩,⟨rfl,rfl⟩,(fun _ _ _ _ _ _ _ _ _ _ _ e=>by cases e),fun _ _ _ _ h=>h⟩
         | false=>
          rw [hn0,Aa] at ha;cases hrm:Nat.ble ((n+1)*(i.bytes+1)) Uw with
          | false=>rw [hrm] at ha;cases ha
          | true=>
           rw [hrm,Ab] at ha;simp only [Ae,Ad] at ha;obtain ⟨rfl,rfl⟩:=ha;have hrm:=Ak hrm;have hnpos:0<n:=by
            rcases BT n with e | e
            ·rw [e] at hn0;cases hn0
            ·exact e
           obtain ⟨newCap,dC,rest,dQ,cU⟩:=hF.hnew (type:=type) (ts:=tts) (base:=none) (len:=0) (c:=0) (xs:=uxs) (old:= #[]) (by simp [Builtin.firstCells]) (by omega) (by simpa [Uw] using hrm);simp only [Ag,Array.empty_append] at cU dC dQ;have hsum:vs.size+rest.size=newCap*i.size:=by rw [hvsz,dQ,hzs,←AQ];congr 1;omega
           refine ⟨_,_,_,cU,z5f h floor hvs rest e e _ _ (fun ρ' hρ'=> ?_),⟨rfl,rfl⟩,(fun _ _ _ _ _ _ _ _ _ _ _ e=>by cases e),fun _ _ k o h=>x3p h⟩;refine .sl _ 0 _ _ _ _ hρ' ?_ dC;simp only [z0s];rw [hsum,hnl];exact ⟨by rw [Ag];exact AJ _ dC,by omega⟩
        ·-- a slice
         rename_i b off len cap;split at ha
         ·rename_i blk hm;split at ha
          ·rename_i old hold;cases hrm:Nat.ble ((len+n+1)*(i.bytes+1)) Uw with
           | false=>rw [hrm] at ha;cases ha
           | true =>
            rw [hrm,Ab] at ha;have hrm:=Ak hrm;have hrn:n=0∨(n+1)*(i.bytes+1)≤1099511627776:=.inr (AL (AJ _ (by omega)) hrm);cases hs with
            | sl _ _ _ _ l c hρ dC hlc=>
             obtain ⟨hpold,fB,holdle⟩:=z5k hold;have eI:=h.blk b l blk hρ hm;have hln:=eI.n;have fG:(len+n)*i.size=len*i.size+n*i.size:=AQ _ _ _;have hoff:off+len*i.size≤blk.cells.length∨len*i.size=0:=(by omega);have hcos:Xz st.mem i.size (.sl b off len cap)=some (len,old):=(by simp [Xz,hm,hold]);obtain ⟨_,hfo⟩:=Wt (P:=P) h hcos (.sl b off len cap l c hρ dC hlc) fB;obtain ⟨ovs,hovs,hof⟩:=hfo len (Ao _);rw [AP (by omega)] at hovs;have hovz:ovs.size=len*i.size:=by rw [←hovs.1];exact fB
             have hof1:(Builtin.firstCells i.size len (.slice (some ⟨l.blk,l.base+off,none⟩) len c)).run P w.drew=.ok ovs w.drew:=hof (w.drawn+1);have inplace: ∀v st',len+n≤c→floor≤b→off+(len+n)*i.size≤blk.cells.length→
               some (AVal.sl b off (len+n) cap,st.withMem (Xt st.mem b (some ⟨blk.cells.take (off+len*i.size)++new++blk.cells.drop (off+(len+n)*i.size),blk.ty,none⟩)))=some (v,st')→(∀z,cap=.un z→z=i.size)→
               ∃ρ' u w',(Builtin.append_ (t::tu::tts).toArray type ((.slice (some ⟨l.blk,l.base+off,none⟩) len c)::ux::uxs).toArray).run P w=.ok u w'∧x2l ρ floor st st' v w ρ' u w'∧(st'.env=st.env∧st'.ob=st.ob)∧j5a ρ st.mem (.sl b off len cap::x::txs) w w':=by
              intro v st' dD hfl dG he hzc;simp only [Ae,Ad] at he;obtain ⟨rfl,rfl⟩:=he;obtain ⟨cur,el,hw,eU,cS⟩:=h.write hρ hm (off:=off+len*i.size) (cs:=new) (vs:=vs.toList) (by simpa using hvs.1.symm) (by omega) (fun j h1 h2=>by simpa using hvs.2 j h1 (by simpa using h2));have hst:=run_storeCells_at P l.blk (l.base+off+len*i.size) el vs.toList 0 cur w hw (by rw [A5,AD l.base];exact eU) dS;rw [A5] at hst;have cU:=hF.hin (type:=type) (ts:=tts) (base:=some ⟨l.blk,l.base+off,none⟩) (len:=len) (c:=c) (xs:=uxs) hrn dD (w':=w.setRow l.blk (cur.toList.take (l.base+off+len*i.size)++vs.toList++cur.toList.drop (l.base+off+len*i.size+vs.toList.length)).toArray)
               (fun a e=>by cases e;rw [Xg];exact hst) (fun e=>by cases e)
              refine ⟨ρ,_,_,cU,⟨.sl _ _ _ _ l c hρ dC (by omega),?_,Ev.ofWrite h hρ hfl _ _⟩,⟨rfl,rfl⟩,(fun b' off' len' z b2 o2 n2 c2 r blk' l' e hn hm' hend hl'=> ?keep),fun _ e=>by cases e⟩
              case keep=>exfalso;cases e;obtain rfl:=hzc _ rfl;rw [hm] at hm';obtain rfl:=Af hm';obtain rfl:=x8k hcs;have:1*i.size≤n*i.size:=AJ _ hn;omega
              have e1:off+len*i.size+new.length=off+(len+n)*i.size:=(by omega);rw [e1] at cS
              simpa only [St.withMem,AD] using cS
             have anew: ∀v st' (st1:St),c<len+n→Rel ρ st1.mem st1.next w→Ev ρ ρ floor st.mem st.next st1.mem st1.next w w→st1.env=st.env→st1.ob=st.ob→
               some (AVal.sl st1.next 0 (len+n) (.un i.size),y0i st1 (old++new) e)=some (v,st')→
               ∃ρ' u w',(Builtin.append_ (t::tu::tts).toArray type ((.slice (some ⟨l.blk,l.base+off,none⟩) len c)::ux::uxs).toArray).run P w=.ok u w'∧x2l ρ floor st st' v w ρ' u w'∧(st'.env=st.env∧st'.ob=st.ob)∧j5a ρ st.mem (.sl b off len cap::x::txs) w w':=by
              intro v st' st1 dD dV hev1 dA hob he;simp only [Ae,Ad] at he;obtain ⟨rfl,rfl⟩:=he;obtain ⟨newCap,eD,rest,dQ,cU⟩:=hF.hnew (type:=type) (ts:=tts) (base:=some ⟨l.blk,l.base+off,none⟩) (len:=len) (c:=c) (xs:=uxs) hof1 dD (by simpa [Uw] using hrm);have hov:=hovs.append hvs;have hsum:(ovs++vs).size +rest.size=newCap*i.size:=by rw [BQ,hovz,hvsz,dQ,hzs,←AQ,←AQ];congr 1;omega
              have hp:=z5f dV floor hov rest e e (.sl st1.next 0 (len+n) (.un i.size)) (.slice (some ⟨w.heap.size,0,none⟩) (len+n) newCap) (fun ρ' hρ'=>by
               refine .sl _ 0 _ _ _ _ hρ' ?_ eD;simp only [z0s];rw [hsum];exact ⟨by rw [Ag,Ar,fB,hnl,←AQ];exact AJ _ eD,by omega⟩)
              refine ⟨_,_,_,cU,⟨hp.val,hp.rel,hev1.trans hp.ev⟩,⟨?_,?_⟩,(fun b' off' len' z b2 o2 n2 c2 r blk' l' e hn hm' hend hl'=> ?keep),fun _ e=>by cases e⟩
              case keep=>have hq:=h.blk b' l' blk' hl' hm';refine hq.world (Rho.le_refl ρ) ?_;obtain ⟨_,_,_,cs0,el0,g1,_⟩:=hq;rw [g1];exact x3p g1
              ·simpa [y0i] using dA
              ·simpa [y0i] using hob
             split at ha
             ·-- the capacity is known
              rename_i k;simp only [z0s] at dC;subst dC;cases hk:Nat.ble (len+n) c with
              | true=>
               rw [hk,Ab] at ha;have hk:=Ak hk;cases hf:(Nat.ble floor b&&Nat.ble (off+(len+n)*i.size) blk.cells.length) with
               | false=>rw [hf] at ha;cases ha
               | true=>rw [hf,Ab] at ha;simp only [Ac] at hf;exact inplace _ _ hk (Ak hf.1) (Ak hf.2) ha (fun z e=>by cases e)
              | false=>
               rw [hk,Aa] at ha;have hk: ¬len+n≤c:=fun e=>by rw [Bh e] at hk;cases hk
               exact anew _ _ st (by omega) h (Ev.refl _ _ _ _ _ h.dom) rfl rfl ha
             ·-- it is not
              rename_i zz;simp only [z0s] at dC;cases hf:(Nat.beq zz i.size&&Nat.ble floor b) with
              | false=>rw [hf] at ha;cases ha
              | true=>
               rw [hf,Ab] at ha;simp only [Ac] at hf;have hzz:=Aj hf.1;have hfl:=Ak hf.2;subst hzz;cases hk:Nat.ble (off+(len+n)*i.size) blk.cells.length with
               | true=>
                rw [hk,Ab] at ha;have hk:=Ak hk;have dD:len+n≤c:=by rw [hln] at dC;have:(len+n)*i.size≤c*i.size:=(by omega);exact Nat.le_of_mul_le_mul_right this hsz
                exact inplace _ _ dD hfl hk ha (fun z e=>by cases e;rfl)
               | false=>
                rw [hk,Aa] at ha;cases hend:Nat.beq (off+len*i.size) blk.cells.length with
                | false=>rw [hend] at ha;cases ha
                | true=>
                 rw [hend,Ab] at ha;have hend:=Aj hend;by_cases dD:len+n≤c
                 ·-- there is Uw: behind what is told
                  simp only [Ae,Ad] at ha;obtain ⟨rfl,rfl⟩:=ha;have hcm:(len+n)*i.size≤c*i.size:=AJ _ dD;obtain ⟨cur,el,hw,eU,cS⟩:=h.beyond hρ hm (off:=off) (new:=new) (vs:=vs.toList) e (by simpa using hvs.1.symm) (by omega) (by omega) (fun j h1 h2=>by simpa using hvs.2 j h1 (by simpa using h2));have hst:=run_storeCells_at P l.blk (l.base+off+len*i.size) el vs.toList 0 cur w hw (by rw [A5,AD l.base,hend];exact eU) dS;rw [A5] at hst;have cU:=hF.hin (type:=type) (ts:=tts) (base:=some ⟨l.blk,l.base+off,none⟩) (len:=len) (c:=c) (xs:=uxs) hrn dD (w':=w.setRow l.blk (cur.toList.take (l.base+off+len*i.size)++vs.toList++cur.toList.drop (l.base+off+len*i.size+vs.toList.length)).toArray)
                   (fun a e=>by cases e;rw [Xg];exact hst) (fun e=>by cases e)
                  have hod:old=blk.cells.drop off:=by rw [hpold];exact AP (by simp;omega)
                  refine ⟨_,_,_,cU,⟨.sl _ 0 _ _ ⟨l.blk,l.base+off,blk.cells.length - off+new.length,l.tot - off⟩ c (by simp [Vd]) ?_ (by omega),?_,Ev.ofBeyond h hρ hfl ⟨l.blk,l.base+off,blk.cells.length - off+new.length,l.tot - off⟩ rfl _ _⟩,⟨rfl,rfl⟩,(fun b' off' len' z b2 o2 n2 c2 r blk' l' e hn hm' _ hl'=> ?keep),fun _ e=>by cases e⟩
                  case keep=>
                   cases e;rw [hm] at hm';obtain rfl:=Af hm';rw [hρ] at hl';obtain rfl:=Af hl';obtain ⟨q1,q2,q3,cs0,el0,q4,q5,q6⟩:=eI;rw [hw] at q4;obtain ⟨rfl,rfl⟩:cur=cs0∧el=el0:=by have:=Af q4;injection this with g1 g2;exact ⟨g1,g2⟩
                   obtain ⟨cs1,s1,s2,s3⟩:=x6o (vs:=vs.toList) hw (m:=l.base+off+len*i.size) (by rw [AD l.base,hend];exact eU);refine ⟨q1,q2,q3,cs1,el,s1,by rw [s2];exact q5,fun k hk=> ?_⟩;obtain ⟨v,r1,r2⟩:=q6 k hk;exact ⟨v,by rw [s3 _ (by omega)];exact r1,r2⟩
                  ·simp only [z0s];omega
                  ·rw [hod];have e2:l.base+off+len*i.size=l.base+blk.cells.length:=(by omega);rw [e2]
                   simpa only [y0i,St.withMem] using cS
                 ·exact anew _ _ (st.withMem (Xt st.mem b none)) (by omega) (h.kill b) (Ev.ofKill h floor hρ) rfl rfl ha
          ·cases ha
         ·cases ha
        ·cases ha
      ·cases ha
     ·cases ha
    ·cases ha
 ·cases ha
theorem w2a {get:Nat→List AVal} {off len n sz N:Nat} {new:List AVal} (hl: ∀i,i<N→(get i).length =sz) (hN:off+len=N) (hnew:new.length=n*sz):
  (∀i,i<len+n→(Ze get off len sz new i).length =sz)∧Yx (len+n) (Ze get off len sz new)=((Yx N get).drop (off*sz)).take (len*sz)++new:=by
 have h1: ∀i,i<len+n→(Ze get off len sz new i).length =sz:=fun i hi=>by
  unfold Ze;cases e:Nat.ble len i with
  | true=>have:=Ak e;simp only [Ab,A0,BV,hnew];have:(i - len+1)*sz≤n*sz:=AJ sz (by omega);rw [AQ,BH] at this;omega
  | false=>
   have: ¬len≤i:=fun h=>by rw [Bh h] at e;cases e
   exact hl _ (by omega)
 refine ⟨h1,?_⟩;have cT:=Yq (len+n) h1;have hlenN:=Yq N hl;have hd:((Yx N get).drop (off*sz)).length =len*sz:=by rw [BV,hlenN,←hN,AQ];omega
 rw [AP (by omega)];apply List.ext_getElem?;intro i;by_cases hi:i<(len+n)*sz
 ·have hsz:0<sz:=by
   rcases BT sz with e | e
   ·rw [e,Nat.mul_zero] at hi;omega
   ·exact e
  have hj:i %sz<sz:=BY _ hsz;have hq:i / sz<len+n:=Bw (by rw [Bn];exact hi);have e:i=i / sz*sz+i %sz:=by rw [Bn];exact (B1 i sz).symm
  generalize i / sz=q at*;generalize i %sz=j at*;subst e;rw [Wn (len+n) h1 q j hq hj];unfold Ze;cases e:Nat.ble len q with
  | true=>
   have hle:=Ak e;have:len*sz≤q*sz:=AJ sz hle;simp only [Ab];rw [BN (by omega),hd,Cm,AB hj,Ca]
   congr 1
   rw [Nat.sub_mul];omega
  | false=>
   have hlt:q<len:=by
    rcases Bi q len with h | h
    ·exact h
    ·rw [Bh h] at e;cases e
   have:(q+1)*sz≤len*sz:=AJ sz hlt;rw [AQ,BH] at this;simp only [Aa];rw [Bv (by omega),Ca,←Wn N hl (off+q) j (by omega) hj]
   congr 1
   rw [AQ];omega
 ·rw [BB (by omega),BB (by rw [Ar,hd,hnew,←AQ];omega)]
theorem w2i (n:Nat) (z:List AVal):rep n z=Yx n fun _=>z:=by unfold rep Yx;rw [List.flatMap_def,List.map_const',Cc]
theorem Ev.remem {ρ':Rho} {floor:Nat} {m m' m'':Mem} {n n':Nat} {w w':World} (h:Ev ρ ρ' floor m n m' n' w w') (hm: ∀b,b<n→ ∀cs ty,Yf m b=some ⟨cs,ty,none⟩→Yf m'' b=Yf m' b):Ev ρ ρ' floor m n m'' n' w w':=
 ⟨h.ext,h.new,h.nxt,fun b hb e cs ty hc=>by rw [hm b hb cs ty hc];exact h.unborn b hb e cs ty hc,h.frame,h.fresh,h.size,h.os,h.tape,h.output,h.still⟩
theorem Rel.remem {mem mem':Mem} {next:Nat} {w:World} (h:Rel ρ mem next w) (hm: ∀b,Yf mem' b=Yf mem b):Rel ρ mem' next w:=
 ⟨h.dom,fun b b' l l' e e' he hs hs'=>h.inj b b' l l' e e' he (by rw [←hm];exact hs) (by rw [←hm];exact hs'),fun b l ab e hc=>h.blk b l ab e (by rw [←hm];exact hc),h.old,fun b l e hs=>h.sep b l e (by rw [←hm];exact hs),h.real,fun b hb=>by rw [hm];exact h.bd b hb,h.ldom⟩
theorem y0j {cx:Ctx} {st st':St} {w:World} (h:Rel ρ st.mem st.next w) {t:TypeId} {x y v:AVal} {ux uy:Value} (hb:Jf P cx st t x y=some (v,st')) (hob:st'.ob=true) (hx:Yy ρ x ux) (hy:Yy ρ y uy):
  ∃ρ' u w',(Instr.makeSlice t ux uy).run P w=.ok u w'∧x2l ρ cx.floor st st' v w ρ' u w':=by
 unfold Jf at hb;split at hb
 ·rename_i e kl l kc c hu;split at hb
  ·rename_i i zero hi hz;cases dU:(Nat.beq zero.length i.size&&Nat.ble 1 i.size) with
   | false=>rw [dU] at hb;cases hb
   | true=>
    rw [dU,Ab] at hb;simp only [Ac] at dU;obtain ⟨k1,k2⟩:=dU;have hzl:=Aj k1;simp only [An,Ad] at hb;obtain ⟨st1,ho,rfl,rfl⟩:=hb;obtain ⟨o1,o2,o3,o4⟩:=z8c ho;obtain ⟨hc,_⟩:=o4 hob;have m2:st1.mem=Xt st.mem st.next (some ⟨Yx c.toNat fun _=>zero,e,some ⟨i.size,c.toNat,.flat fun _=>zero⟩⟩):=o2
    have n2:st1.next=st.next+1:=o3
    have h0:Vn P st t (.int kl l) (.int kc c)=some (.sl st.next 0 l.toNat (.ex c.toNat),y0i st (rep c.toNat zero) e):=by unfold Vn;simp only [hu,hi,hz,k1,hc,Bool.and_self,Ab]
    obtain ⟨ρ',uv,w',cU,hp,_,_⟩:=Qm h cx.floor h0 hx hy;refine ⟨ρ',uv,w',cU,?_,?_,?_⟩
    ·have hv:=hp.val;cases hv with
     | sl _ _ _ _ l' c' hρ' eD eZ=>
      have hbk:=hp.rel.blk st.next l' ⟨rep c.toNat zero,e,none⟩ hρ' (Yw _ _ _)
      have hcn:c'=c.toNat:=eD;have q1:=hbk.n;have q2:=hbk.tot;simp only [z0e,hzl] at q1;have:=Yy.sla (ρ:=ρ') st.next i.size 0 l.toNat (.un i.size) l' c' hρ' (by simp only [z0s,Bj,Ag,hcn];omega) eZ
      rw [Bj] at this;exact this
    ·have hr:Rel ρ' (Xt st.mem st.next (some ⟨rep c.toNat zero,e,none⟩)) (st.next+1) w':=hp.rel;rw [w2i] at hr;rw [m2,n2];exact hr.setArr ⟨i.size,c.toNat,_⟩ rfl (Ak k2) fun _ _=>hzl
    ·rw [m2,n2];refine hp.ev.remem fun b' hb' cs ty hcs=> ?_;show _=Yf (Xt st.mem st.next _) b';rw [Zw _ _ (by omega),Zw _ _ (by omega)]
  ·cases hb
 ·cases hb
theorem z6b {cx:Ctx} {st st':St} {w:World} (h:Rel ρ st.mem st.next w) {ts:Array TypeId} {type:TypeId} {xs:List AVal} {us:Array Value} {v:AVal} (ha:z3p P cx st ts.toList xs=some (v,st')) (hob:st'.ob=true) (hx:Wr (Yy ρ) xs us.toList):
  ∃ρ' u w',(Builtin.append_ ts type us).run P w=.ok u w'∧x2l ρ cx.floor st st' v w ρ' u w'∧ ∀b sz off len z r blk l,xs=.sla b sz off len (.un z)::r→Yf st.mem b=some blk→ρ b=some l→Ux ρ w' blk l:=by
 obtain ⟨ul⟩:=us;simp only at hx;unfold z3p at ha;split at ha
 ·rename_i t u tr b sz off len z x xr hts;split at ha
  ·rename_i e ut hu hut;split at ha
   ·cases ha
   ·rename_i hni;split at ha
    ·rename_i i hi;split at ha
     ·rename_i n new zero blk hc hz hm;split at ha
      ·rename_i A hA;cases dU:(Nat.beq zero.length i.size&&Nat.beq new.length (n*i.size)&&Nat.ble 1 i.size&&new.all z9y&&Nat.beq sz i.size&&Nat.beq z sz&&Nat.ble cx.floor b&&Nat.ble 1 n) with
       | false=>rw [dU] at ha;cases ha
       | true=>
        rw [dU,Ab] at ha;have hchk0:=dU;simp only [Ac] at dU;obtain ⟨⟨⟨⟨⟨⟨⟨k1,k2⟩,k3⟩,k4⟩,k5⟩,k6⟩,k7⟩,k8⟩:=dU;obtain rfl:=Aj k5;obtain rfl:=Aj k6;have hnl:=Aj k2;have hsz1:=Ak k3;have hfl:=Ak k7;have hn1:=Ak k8;simp only [An,Ad] at ha;obtain ⟨st1,ho,rfl,rfl⟩:=ha;obtain ⟨o1,o2,o3,o4⟩:=z8c ho;obtain ⟨hb,_⟩:=o4 hob;simp only [Ac,As] at hb;obtain ⟨hAs,hfull,dD⟩:=hb;have hAs:=Aj hAs;have hbn:b<st.next:=by
         rcases Bi b st.next with g | g
         ·exact g
         ·rw [h.bd b g] at hm;cases hm
        have m2:st1.mem=Xt (Xt st.mem b none) st.next (some ⟨Yx (len+n) (Ze A.get off len i.size new),e,some ⟨i.size,len+n,Ze A.get off len i.size new⟩⟩):=o2
        have n2:st1.next=st.next+1:=o3
        cases hx with
        | cons ha0 hr=>
         cases ha0 with
         | sla _ _ _ _ _ l c hρ dC cT=>
          obtain ⟨dT,fA,dJ⟩:=(h.blk b l blk hρ hm).arr A hA;rw [hAs] at dJ;obtain ⟨q1,q2⟩:=w2a (new:=new) dJ hfull hnl;have hlenr:=Yq A.n dJ;have fG:off*i.size+len*i.size=A.n*i.size:=(by rw [←AQ,hfull]);have hcut:cut blk.cells (off*i.size) (len*i.size)=some ((blk.cells.drop (off*i.size)).take (len*i.size)):=by
           unfold cut;simp only;rw [show Nat.beq ((blk.cells.drop (off*i.size)).take (len*i.size)).length (len*i.size)=true from by
            rw [Nat.beq_eq];simp [dT,hlenr];omega]
           rfl
          have hroom':Nat.ble ((len+n+1)*(i.bytes+1)) Uw=true:=Bh dD;have hnot:Nat.ble (off*i.size+(len+n)*i.size) blk.cells.length=false:=by
           have:1*i.size≤n*i.size:=AJ _ hn1;cases g:Nat.ble (off*i.size+(len+n)*i.size) blk.cells.length with
           | false=>rfl
           | true=>have:=Ak g;rw [dT,hlenr,AQ] at this;omega
          have hat:Nat.beq (off*i.size+len*i.size) blk.cells.length=true:=(by rw [dT,hlenr,fG,Nat.beq_eq]);have h0:z0n P cx.floor st ts.toList (.sl b (off*i.size) len (.un i.size)::x::xr)=some (.sl st.next 0 (len+n) (.un i.size),y0i (st.withMem (Xt st.mem b none)) (((blk.cells.drop (off*i.size)).take (len*i.size))++new) e):=by
           rw [hts];unfold z0n;simp only [hu,hut,hi,hz];cases ut <;> first
            | (exfalso;exact hni _ rfl)
            | (simp only [Uy,hc,k1,k2,k3,k4,hm,hcut,hroom',k7,hnot,hat,Bool.and_self,Ab,Aa,B4])
          obtain ⟨ρ',uv,w',cU,hp,_,hkeep⟩:=z0a (type:=type) h cx.floor h0 (us:=⟨_⟩) (.cons (.sl _ _ _ _ l c hρ dC cT) hr);refine ⟨ρ',uv,w',cU,⟨?_,?_,?_⟩,fun b' sz' off' len' z' r' blk' l' e hm' hl'=> ?_⟩
          rotate_left 3
          ·injection e with e1 _;injection e1 with f1 _ _ _ _;subst f1;rw [hm] at hm';obtain rfl:=Af hm';have hxs: ∃b2 o2 c2,x=.sl b2 o2 n c2:=by
            unfold Xz at hc;split at hc
            ·simp only [Ae,Ad] at hc;omega
            ·split at hc
             ·simp only [An,Ad] at hc;obtain ⟨_,_,rfl,_⟩:=hc;exact ⟨_,_,_,rfl⟩
             ·cases hc
            ·cases hc
           obtain ⟨b2,o2,c2,rfl⟩:=hxs;exact hkeep.1 _ _ _ _ _ _ _ _ _ _ _ rfl hn1 hm (by rw [dT,hlenr,fG]) hl'
          ·have hv:=hp.val;cases hv with
           | sl _ _ _ _ l' c' hρ' eD eZ=>
            have:=Yy.sla (ρ:=ρ') st.next i.size 0 (len+n) (.un i.size) l' c' hρ' (by rw [Bj];exact eD) eZ
            rw [Bj] at this;exact this
          ·have hr:=hp.rel;rw [m2,n2];have hr:Rel ρ' (Xt (Xt st.mem b none) st.next (some ⟨((blk.cells.drop (off*i.size)).take (len*i.size))++new,e,none⟩)) (st.next+1) w':=hr;rw [dT,←q2] at hr;exact hr.setArr ⟨i.size,len+n,_⟩ rfl hsz1 q1
          ·rw [m2,n2];refine hp.ev.remem fun b' hb' cs ty hcs=> ?_;have hne:b'≠b:=fun e=>by rw [e,hm] at hcs;cases hcs;cases hA
           show _=Yf (Xt (Xt st.mem b none) st.next _) b';rw [Zw _ _ (by omega),Zw _ _ hne,Zw _ _ (by omega),Zw _ _ hne]
         | slan=>
          have hq:=w2a (get:=fun _=>List.replicate i.size AVal.undef) (off:=0) (len:=0) (N:=0) (new:=new) (fun i hi=>absurd hi (AO _)) rfl hnl;have hfe:Ze (fun _=>List.replicate i.size AVal.undef) 0 0 i.size new=Ze A.get off 0 i.size new:=rfl;rw [hfe] at hq;obtain ⟨q1,q2⟩:=hq;have hn0:Nat.beq n 0=false:=by cases n with | zero=>omega | succ n=>rfl
          have hroom':Nat.ble ((n+1)*(i.bytes+1)) Uw=true:=Bh (by rw [Ag] at dD;exact dD);have h0:z0n P cx.floor st ts.toList (.nils ::x::xr)=some (.sl st.next 0 n (.un i.size),y0i st new e):=by
           rw [hts];unfold z0n;simp only [hu,hut,hi,hz];cases ut <;> first
            | (exfalso;exact hni _ rfl)
            | (simp only [Uy,hc,k1,k2,k3,k4,hn0,hroom',Bool.and_self,Ab,Aa])
          obtain ⟨ρ',uv,w',cU,hp,_,hkeep⟩:=z0a (type:=type) h cx.floor h0 (us:=⟨_⟩) (.cons .nils hr);refine ⟨ρ',uv,w',cU,⟨?_,?_,?_⟩,fun b' sz' off' len' z' r' blk' l' e hm' hl'=> ?_⟩
          rotate_left 3
          ·have hq:=h.blk b' l' blk' hl' hm';refine hq.world (Rho.le_refl ρ) ?_;obtain ⟨_,_,_,cs0,el0,g1,_⟩:=hq;rw [g1];exact hkeep.2 _ rfl _ _ g1
          ·have hv:=hp.val;rw [Ag];cases hv with
           | sl _ _ _ _ l' c' hρ' eD eZ=>
            have:=Yy.sla (ρ:=ρ') st.next i.size 0 n (.un i.size) l' c' hρ' (by rw [Bj];exact eD) eZ
            rw [Bj] at this;exact this
          ·have hr:Rel ρ' (Xt st.mem st.next (some ⟨new,e,none⟩)) (st.next+1) w':=hp.rel;have hr:=hr.kill b;have hr:Rel ρ' (Xt (Xt st.mem b none) st.next (some ⟨new,e,none⟩)) (st.next+1) w':=hr.remem fun b'=>by
            simp only [Ws];by_cases e1:b'=st.next
            ·rw [AB e1,Aw (by omega),AB e1]
            ·rw [Aw e1,Aw e1]
           rw [show new=Yx (0+n) (Ze A.get off 0 i.size new) by rw [q2];simp] at hr;rw [m2,n2];have:=hr.setArr ⟨i.size,0+n,Ze A.get off 0 i.size new⟩ rfl hsz1 q1;exact this
          ·rw [m2,n2];refine hp.ev.remem fun b' hb' cs ty hcs=> ?_;have hne:b'≠b:=fun e=>by rw [e,hm] at hcs;cases hcs;cases hA
           show _=Yf (Xt st.mem st.next _) b';rw [Zw _ _ (by omega),Zw _ _ hne,Zw _ _ (by omega)]
      ·cases ha
     ·cases ha
    ·cases ha
  ·cases ha
 ·cases ha
theorem Rel.ghost {mem:Mem} {next:Nat} {w:World} (h:Rel ρ mem next w) (o:Option ABlk):Rel ρ (Xt mem next o) (next+1) w:=by
 have ne: ∀c l,ρ c=some l→c≠next:=fun c l e=>A6 (h.dom c l e)
 refine ⟨fun c l e=>BO (h.dom c l e),fun c c' m m' e e' he hs hs'=> ?_,fun c m ac e hc=> ?_,h.old,fun c m e hs=> ?_,h.real,fun c hc=> ?_,fun j l e=>BO (h.ldom j l e)⟩
 ·rw [Zw _ _ (ne _ _ e)] at hs;rw [Zw _ _ (ne _ _ e')] at hs';exact h.inj c c' m m' e e' he hs hs'
 ·rw [Zw _ _ (ne _ _ e)] at hc;exact h.blk c m ac e hc
 ·rw [Zw _ _ (ne _ _ e)] at hs;exact h.sep c m e hs
 ·rw [Zw _ _ (by omega)];exact h.bd c (by omega)
theorem Ev.ghost {mem:Mem} {next:Nat} {w:World} (h:Rel ρ mem next w) (floor:Nat) (o:Option ABlk):Ev ρ ρ floor mem next (Xt mem next o) (next+1) w w where
 ext:=Rho.le_refl _
 new _ _:=rfl
 nxt:=Co _
 unborn k hk _ cs ty hm:=by rw [Zw _ _ (A6 hk)];exact hm
 frame _ _ hk _:=hk
 fresh k m hk e:=by have:=h.dom k m e;omega
 size:=Ao _
 os:=rfl
 tape:=rfl
 output:=rfl
 still _ _:=rfl
theorem v4s {mem:Mem} {next:Nat} {w:World} (h:Rel ρ mem next w) {n sz:Nat} {g:Nat→List AVal} {ux:Value} (hx:Yy ρ (.dat n g) ux) (hg: ∀i,i<n→(g i).length =sz) (hsz:1≤sz):
  (∀w,(Builtin.lenOf ux).run P w=.ok n w)∧ ∃vs:Array Value,Vr ρ (Yx n g) vs∧ ∀d,(Builtin.firstCells sz n ux).run P {w with drawn:=d}=.ok vs {w with drawn:=d}:=by
 cases hx with
 | datn=>exact ⟨fun w=>by simp [Builtin.lenOf], #[],⟨by simp [Yx],fun i h1 h2=>by simp [Yx] at h1⟩,fun d=>by simp [Builtin.firstCells]⟩
 | datz=>exact ⟨fun w=>by simp [Builtin.lenOf], #[],⟨by simp [Yx],fun i h1 h2=>by simp [Yx] at h1⟩,fun d=>by simp [Builtin.firstCells,loadCells,loadCellsFrom]⟩
 | dat _ _ blk base sz' cap val dC eV hv hh=>
  refine ⟨fun w=>by simp [Builtin.lenOf],?_⟩;have hl:=Yq n hg;have hdiv: ∀k,k<n*sz→k / sz<n∧k %sz<sz∧k / sz*sz+k %sz=k:=fun k hk=>
   ⟨Bw (by rw [Bn];exact hk),BY _ hsz,by rw [Bn];exact B1 k sz⟩
  have dW: ∀(d k:Nat),k<n*sz→({w with drawn:=d}:World).cell? ((⟨blk,base,none⟩:Addr).add k)=some (val (k / sz) (k %sz)):=by
   intro d k hk;obtain ⟨hq,hj,e4⟩:=hdiv k hk;have hs:sz'=sz:=by rw [←eV _ hq,hg _ hq]
   obtain ⟨cs,el,fz,e1,e2⟩:=hh (k / sz) (k %sz) hq (by omega);have e3:=h.old _ _ e1;rw [hs,e4] at e2;rw [Xg];simp only [World.cell?,e3];exact e2
  refine ⟨_,⟨?_,?_⟩,fun d=>by simp only [Builtin.firstCells];exact run_loadCells _ _ _ (fun k=>val (k / sz) (k %sz)) (dW d)⟩
  ·simp [hl]
  ·intro k h1 h2;obtain ⟨hq,hj,e4⟩:=hdiv k (by rw [←hl];exact h1);have hj':k %sz<(g (k / sz)).length :=by rw [hg _ hq];exact hj
   have hr:=Wn n hg (k / sz) (k %sz) hq hj;rw [e4,Aq h1,Aq hj'] at hr;rw [Af hr]
   simpa using (hv (k / sz) (k %sz) hq hj').mono (x1y ρ)
theorem y2r {g:Nat→List AVal} {p:AVal→Bool} (n:Nat) (h: ∀i,i<n→(g i).all p=true):(Yx n g).all p=true:=by refine Au.2 fun a ha=> ?_;unfold Yx at ha;obtain ⟨i,hi,hai⟩:=AN.1 ha;exact Au.1 (h i (A2.1 hi)) a hai
theorem z4f {get:Nat→List AVal} {sz N off len:Nat} (hl: ∀i,i<N→(get i).length =sz) (h:off+len≤N):Yx len (fun k=>get (off+k))=((Yx N get).drop (off*sz)).take (len*sz):=by
 have h1: ∀k,k<len→(get (off+k)).length =sz:=fun k hk=>hl _ (by omega);have hL:=Yq len h1;have hN:=Yq N hl;have hm:(off+len)*sz≤N*sz:=AJ _ h;rw [AQ] at hm;apply List.ext_getElem?;intro i;by_cases hi:i<len*sz
 ·have hsz:0<sz:=by
   rcases BT sz with e | e
   ·rw [e,Nat.mul_zero] at hi;omega
   ·exact e
  have hj:i %sz<sz:=BY _ hsz;have hq:i / sz<len:=Bw (by rw [Bn];exact hi);have e:i / sz*sz+i %sz=i:=by rw [Bn];exact B1 i sz
  have a1:=Wn len h1 (i / sz) (i %sz) hq hj;have a2:=Wn N hl (off+i / sz) (i %sz) (by omega) hj;rw [e] at a1;rw [a1,Cm,AB hi,Ca,←a2]
  congr 1
  rw [AQ];omega
 ·rw [BB (by omega),BB (by simp;omega)]
theorem x0b {mem:Mem} {next:Nat} {w:World} (h:Rel ρ mem next w) {t u e:TypeId} {ut:TypeDesc} {i:TypeInfo} {z:Value} {zero:List AVal} {x:AVal} {ux:Value} {n:Nat} {g:Nat→List AVal} {o:Bool} (hu:P.underlying t=some (.slice e)) (hut:P.underlying u=some ut) (hi:P.info? e=some i) (hz:i.zero=some z)
  (hzr:Vr ρ zero z.cells) (hzl:zero.length=i.size) (hzs:zero.all z9y=true) (hsz:1≤i.size) (hc:x0c mem i.size zero ut x=some (n,g,o)) (ho:o=true) (hx:Yy ρ x ux):
  (∀k,k<n→(g k).length =i.size)∧ ∃vs,u1z P ρ t u e i z ux n (Yx n g) vs w∧ ∀v∈vs.toList,v.oneCell'=true:=by
 subst ho;unfold x0c at hc;split at hc
 ·rename_i k m;split at hc
  ·rename_i kt;simp only [Ae,Ad] at hc;obtain ⟨rfl,rfl,h0⟩:=hc;have hcs:Uy mem i.size zero (.int kt) (.int k m)=some (m.toNat,rep m.toNat zero):=by unfold Uy;simp only [h0,Ab]
   obtain ⟨vs,hF⟩:=Jj (P:=P) (u:=u) (t:=t) h hu hut hi hz hzr hzl hcs hx (by rw [z0e,hzl]);rw [w2i] at hF;exact ⟨fun _ _=>hzl,vs,hF,Yy.cells_oneCell hF.rel (y2r _ fun _ _=>hzs)⟩
  ·cases hc
 ·rename_i nn gg;split at hc
  ·cases hc
  ·rename_i hni;simp only [Ae,Ad] at hc;obtain ⟨rfl,rfl,h0⟩:=hc;have hp:= @AC _ (Classical.propDecidable _) h0;obtain ⟨cT,vs,hvs,hfc⟩:=v4s (P:=P) h hx (fun i hi=>(hp i hi).1) hsz;have eG:(Builtin.firstCells i.size nn ux).run P w=.ok vs w:=hfc w.drawn;have hfc1:(Builtin.firstCells i.size nn ux).run P w.drew=.ok vs w.drew:=hfc (w.drawn+1);exact ⟨fun i hi=>(hp i hi).1,vs,⟨hvs,fun _ dD _ hst hno=>z7j hu hut (fun k e=>hni k e) hi (cT w) eG dD hst hno,fun hold dD eC=>z5t hu hut (fun k e=>hni k e) hi hz (cT w) hfc1 hold dD eC⟩,
    Yy.cells_oneCell hvs (y2r _ fun i hi=>(hp i hi).2)⟩
 ·split at hc
  ·cases hc
  ·rename_i hni;simp only [Ae,Ad] at hc;obtain ⟨rfl,rfl,_⟩:=hc;have hcs:Uy mem i.size zero ut .nils =some (0,[]):=by
    unfold Uy;split
    ·rename_i k;exact absurd rfl (hni k)
    ·rfl
   obtain ⟨vs,hF⟩:=Jj (P:=P) (u:=u) (t:=t) h hu hut hi hz hzr hzl hcs hx (by simp);exact ⟨fun k hk=>absurd hk (AO _),vs,hF,Yy.cells_oneCell hF.rel rfl⟩
 ·rename_i b zz off len0 cap;split at hc
  ·cases hc
  ·rename_i hni;split at hc
   ·rename_i cells ty A hm;simp only [Ae,Ad,Ac,As] at hc;obtain ⟨rfl,rfl,h1,h2,dG,h4⟩:=hc;have hp:= @AC _ (Classical.propDecidable _) h4;have h1:=Aj h1;have h2:=Aj h2;subst h1;have nc: ∀v,Uy mem i.size zero ut v=Xz mem i.size v:=fun v=>by
     unfold Uy;split
     ·rename_i k;exact absurd rfl (hni k)
     ·rfl
    cases hx with
    | sla _ _ _ _ _ l c hρ dC hlc=>
     obtain ⟨dT,fA,dJ⟩:=(h.blk b l _ hρ hm).arr A rfl;rw [h2] at dJ;simp only at dT;have hrp:=z4f dJ dG;have hlr:=Yq A.n dJ;have hm2:(off+len0)*i.size≤A.n*i.size:=AJ _ dG;rw [AQ] at hm2;have cT:((cells.drop (off*i.size)).take (len0*i.size)).length =len0*i.size:=by rw [A0,BV,dT,hlr];omega
     have hcut:cut cells (off*i.size) (len0*i.size)=some ((cells.drop (off*i.size)).take (len0*i.size)):=by unfold cut;simp only;rw [show Nat.beq ((cells.drop (off*i.size)).take (len0*i.size)).length (len0*i.size)=true from by rw [Nat.beq_eq];exact cT];rfl
     have hcs:Uy mem i.size zero ut (.sl b (off*i.size) len0 (.ex c))=some (len0,(cells.drop (off*i.size)).take (len0*i.size)):=by rw [nc];simp [Xz,hm,hcut]
     obtain ⟨vs,hF⟩:=Jj (P:=P) (u:=u) (t:=t) h hu hut hi hz hzr hzl hcs (.sl b (off*i.size) len0 (.ex c) l c hρ rfl hlc) cT;rw [dT,←hrp] at hF;exact ⟨fun k hk=>(hp k hk).1,vs,hF,Yy.cells_oneCell hF.rel (y2r _ fun k hk=>(hp k hk).2)⟩
    | slan=>
     have hcs:Uy mem i.size zero ut .nils =some (0,[]):=by rw [nc];rfl
     obtain ⟨vs,hF⟩:=Jj (P:=P) (u:=u) (t:=t) h hu hut hi hz hzr hzl hcs .nils (by simp);exact ⟨fun k hk=>absurd hk (AO _),vs,hF,Yy.cells_oneCell hF.rel rfl⟩
   ·cases hc
 ·cases hc
def j5b (P:Program) (ρ:Rho) (floor:Nat) (mem mem':Mem) (next:Nat) (sz:Nat) (e:TypeId) (N:Nat) (G:Nat→List AVal) (w:World) (r:World→Result Value):Prop:=
 ∃ρ' u w',r w=.ok u w'∧Yy ρ' (.sla next sz 0 N (.un sz)) u∧Rel ρ' (Xt mem' next (some ⟨Yx N G,e,some ⟨sz,N,G⟩⟩)) (next+1) w'∧Ev ρ ρ' floor mem next (Xt mem' next (some ⟨Yx N G,e,some ⟨sz,N,G⟩⟩)) (next+1) w w'
theorem y5m {mem:Mem} {next:Nat} {w:World} (h:Rel ρ mem next w) (floor:Nat) {t u e:TypeId} {type:TypeId} {ts:List TypeId} {xs:List Value} {i:TypeInfo} {z ux:Value} {n:Nat} {new:List AVal} {vs:Array Value} (hF:u1z P ρ t u e i z ux n new vs w)
  (dS: ∀v∈vs.toList,v.oneCell'=true) (hnl:new.length=n*i.size) (hzs:z.cells.size=i.size) (hsz:1≤i.size) {len c off b:Nat} {l:Loc} {blk:ABlk} (hrm:(len+n+1)*(i.bytes+1)≤Uw)
  (hρ:ρ b=some l) (hm:Yf mem b=some blk) (hfl:floor≤b) (hoff:off+len*i.size≤blk.cells.length) (hlc:len≤c) (dC:(l.n≤off+c*i.size∧off+c*i.size≤l.tot)∨c≤len)
  {G:Nat→List AVal} (hG:Yx (len+n) G=(blk.cells.drop off).take (len*i.size)++new) (hGl: ∀k,k<len+n→(G k).length =i.size):
  j5b P ρ floor mem (Xt mem b none) next i.size e (len+n) G w fun w=>(Builtin.append_ (t::u::ts).toArray type ((.slice (some ⟨l.blk,l.base+off,none⟩) len c)::ux::xs).toArray).run P w:=by
 have hvs:=hF.rel;have hvsz:vs.size=n*i.size:=by rw [←hvs.1];exact hnl
 have hbk:=h.blk b l blk hρ hm;have hln:=hbk.n;have htot:=hbk.tot;have fG:(len+n)*i.size=len*i.size+n*i.size:=AQ _ _ _;have hcut:cut blk.cells off (len*i.size)=some ((blk.cells.drop off).take (len*i.size)):=by unfold cut;simp only;rw [show Nat.beq ((blk.cells.drop off).take (len*i.size)).length (len*i.size)=true from by rw [Nat.beq_eq];simp;omega];rfl
 have hcos:Xz mem i.size (.sl b off len (.ex c))=some (len,(blk.cells.drop off).take (len*i.size)):=by simp [Xz,hm,hcut]
 have fB:((blk.cells.drop off).take (len*i.size)).length =len*i.size:=by simp;omega
 obtain ⟨_,hfo⟩:=Wt (P:=P) h hcos (.sl b off len (.ex c) l c hρ rfl hlc) fB;obtain ⟨ovs,hovs,hof⟩:=hfo len (Ao _);rw [AP (by omega)] at hovs;have hovz:ovs.size=len*i.size:=by rw [←hovs.1];exact fB
 have hof1:(Builtin.firstCells i.size len (.slice (some ⟨l.blk,l.base+off,none⟩) len c)).run P w.drew=.ok ovs w.drew:=hof (w.drawn+1);have hrn:n=0∨(n+1)*(i.bytes+1)≤1099511627776:=.inr (AL (AJ _ (by omega)) hrm);by_cases dD:len+n≤c
 ·-- there is Uw
  have hcm:(len+n)*i.size≤c*i.size:=AJ _ dD;obtain ⟨T,t1,t2,t3⟩: ∃T,off+len*i.size - off+new.length≤T∧off+T≤l.tot∧c*i.size≤T:=by
   rcases dC with ⟨c1,c2⟩ | c1
   ·exact ⟨l.tot - off,by omega,by omega,by omega⟩
   ·have:n=0:=(by omega);subst this;have:c=len:=(by omega);subst this;exact ⟨c*i.size,by omega,by omega,by omega⟩
  obtain ⟨cur,el,hw,eU,cS⟩:=h.beyond2 hρ hm (off:=off) (m:=off+len*i.size) (T:=T) (new:=new) (vs:=vs.toList) e (by simpa using hvs.1.symm) (by omega) hoff t1 t2 (fun j h1 h2=>by simpa using hvs.2 j h1 (by simpa using h2));have hst:=run_storeCells_at P l.blk (l.base+off+len*i.size) el vs.toList 0 cur w hw (by rw [A5,AD l.base];exact eU) dS;rw [A5] at hst;have cU:=hF.hin (type:=type) (ts:=ts) (base:=some ⟨l.blk,l.base+off,none⟩) (len:=len) (c:=c) (xs:=xs) hrn dD (w':=w.setRow l.blk (cur.toList.take (l.base+off+len*i.size)++vs.toList++cur.toList.drop (l.base+off+len*i.size+vs.toList.length)).toArray)
   (fun a e=>by cases e;rw [Xg];exact hst) (fun e=>by cases e)
  have hdt:(blk.cells.take (off+len*i.size)).drop off=(blk.cells.drop off).take (len*i.size):=by rw [List.drop_take];congr 1;omega
  rw [hdt,←hG,←AD] at cS;refine ⟨_,_,_,cU,?_,cS.setArr ⟨i.size,len+n,G⟩ rfl hsz hGl,?_⟩
  ·have:=Yy.sla (ρ:=Vd ρ next ⟨l.blk,l.base+off,off+len*i.size - off+new.length,T⟩) next i.size 0 (len+n) (.un i.size) ⟨l.blk,l.base+off,off+len*i.size - off+new.length,T⟩ c (by simp [Vd])
    (by simp only [z0s,Bj,Ag];omega) (by omega)
   rw [Bj] at this;exact this
  ·exact Ev.ofBeyond h hρ hfl ⟨l.blk,l.base+off,off+len*i.size - off+new.length,T⟩ rfl _ _
 ·-- a new row
  let st:St:=⟨.leaf,mem,next,[],true⟩
  have dV:Rel ρ (st.withMem (Xt mem b none)).mem (st.withMem (Xt mem b none)).next w:=h.kill b
  obtain ⟨newCap,eD,rest,dQ,cU⟩:=hF.hnew (type:=type) (ts:=ts) (base:=some ⟨l.blk,l.base+off,none⟩) (len:=len) (c:=c) (xs:=xs) hof1 (by omega) (by simpa [Uw] using hrm);have hov:=hovs.append hvs;have hsum:(ovs++vs).size +rest.size=newCap*i.size:=by rw [BQ,hovz,hvsz,dQ,hzs,←AQ,←AQ];congr 1;omega
  have hp:=z5f dV floor hov rest e e (.sla next i.size 0 (len+n) (.un i.size)) (.slice (some ⟨w.heap.size,0,none⟩) (len+n) newCap) (fun ρ' hρ'=>by
   have:=Yy.sla (ρ:=ρ') next i.size 0 (len+n) (.un i.size) _ newCap hρ' (by
    simp only [z0s];rw [hsum];exact ⟨by rw [Bj,Ag,Ar,fB,hnl,←AQ];exact AJ _ eD,by omega⟩) eD
   rw [Bj] at this;exact this)
  rw [←hG] at hp;refine ⟨Vd ρ next ⟨w.heap.size,0,(Yx (len+n) G).length,(ovs++vs).size +rest.size⟩,_,_,cU,hp.val,?_,?_⟩
  ·exact Rel.setArr hp.rel ⟨i.size,len+n,G⟩ rfl hsz hGl
  ·refine ((Ev.ofKill h floor hρ).trans hp.ev).remem fun b' hb' cs ty hcs=> ?_;have hne: ¬b'=next:=A6 hb'
   show Yf (Xt (Xt mem b none) next _) b'=Yf (Xt (Xt mem b none) next _) b';simp only [Ws,Aw hne]
theorem x4j {mem:Mem} {next:Nat} {w:World} (h:Rel ρ mem next w) (floor:Nat) {t u e:TypeId} {type:TypeId} {ts:List TypeId} {xs:List Value} {i:TypeInfo} {z ux:Value} {n:Nat} {new:List AVal} {vs:Array Value} (hF:u1z P ρ t u e i z ux n new vs w)
  (hnl:new.length=n*i.size) (hzs:z.cells.size=i.size) (hsz:1≤i.size) (hrm:(0+n+1)*(i.bytes+1)≤Uw) {G:Nat→List AVal} (hG:Yx (0+n) G=new) (hGl: ∀k,k<0+n→(G k).length =i.size):
  j5b P ρ floor mem mem next i.size e (0+n) G w fun w=>(Builtin.append_ (t::u::ts).toArray type ((.slice none 0 0)::ux::xs).toArray).run P w:=by
 have hvs:=hF.rel;have hvsz:vs.size=n*i.size:=by rw [←hvs.1];exact hnl
 rcases BT n with hn0 | hnpos
 ·subst hn0;have cU:=hF.hin (type:=type) (ts:=ts) (base:=none) (len:=0) (c:=0) (xs:=xs) (.inl rfl) (Ao _) (w':=w) (fun a e=>by cases e) (fun _=>rfl);exact ⟨ρ,_,w,cU,.slan _ _ _ _,h.ghost _,Ev.ghost h floor _⟩
 ·obtain ⟨newCap,dC,rest,dQ,cU⟩:=hF.hnew (type:=type) (ts:=ts) (base:=none) (len:=0) (c:=0) (xs:=xs) (old:= #[]) (by simp [Builtin.firstCells]) (by omega) (by simpa [Uw] using hrm);have e0:(#[]:Array Value)++vs=vs:=by simp
  rw [e0] at cU;have hsum:vs.size+rest.size=newCap*i.size:=by rw [hvsz,dQ,hzs,←AQ];congr 1;omega
  let st:St:=⟨.leaf,mem,next,[],true⟩
  have dV:Rel ρ st.mem st.next w:=h
  have hp:=z5f dV floor hvs rest e e (.sla next i.size 0 (0+n) (.un i.size)) (.slice (some ⟨w.heap.size,0,none⟩) (0+n) newCap) (fun ρ' hρ'=>by
   have:=Yy.sla (ρ:=ρ') next i.size 0 (0+n) (.un i.size) _ newCap hρ' (by
    simp only [z0s];rw [hsum,hnl];exact ⟨by rw [Bj,Ag];exact AJ _ (by omega),by omega⟩) dC
   rw [Bj] at this;exact this)
  rw [←hG] at hp;refine ⟨Vd ρ next ⟨w.heap.size,0,(Yx (0+n) G).length,vs.size+rest.size⟩,_,_,cU,hp.val,Rel.setArr hp.rel ⟨i.size,0+n,G⟩ rfl hsz hGl,?_⟩
  ·refine hp.ev.remem fun b' hb' cs ty hcs=> ?_;have hne: ¬b'=next:=A6 hb'
   show Yf (Xt mem next _) b'=Yf (Xt mem next _) b';simp only [Ws,Aw hne]
theorem Js {α β:Type} {f g:α→List β}: ∀{l:List α},(∀a,a∈l→f a=g a)→l.flatMap f=l.flatMap g
 | [],_=>rfl
 | a::l,h=>by rw [Be,Be,h a (by simp),Js fun b hb=>h b (by simp [hb])]
theorem y2q {get g:Nat→List AVal} {len n sz:Nat} (hl: ∀i,i<len→(get i).length =sz) (hg: ∀i,i<n→(g i).length =sz):
  (∀i,i<len+n→(Uf get len g i).length =sz)∧Yx (len+n) (Uf get len g)=Yx len get++Yx n g:=by
 have h1: ∀i,i<len+n→(Uf get len g i).length =sz:=fun i hi=>by
  unfold Uf;cases e:Nat.ble len i with
  | true=>have:=Ak e;simp only [Ab];exact hg _ (by omega)
  | false=>
   have: ¬len≤i:=fun h=>by rw [Bh h] at e;cases e
   exact hl _ (by omega)
 refine ⟨h1,?_⟩;unfold Yx;rw [List.range_add,Bt]
 congr 1
 ·refine Js fun i hi=> ?_;have:=A2.1 hi;unfold Uf;rw [show Nat.ble len i=false from A8.2 fun e=>by have:=Ak e;omega];rfl
 ·rw [List.flatMap_map];refine Js fun i hi=> ?_;unfold Uf;rw [show Nat.ble len (len+i)=true from Bh (BI _ _),Ab,Nat.add_sub_cancel_left]
theorem x7e {sz:Nat}: ∀(n:Nat) (l:List AVal),l.length=n*sz→Yx n (fun k=>(l.drop (k*sz)).take sz)=l∧ ∀k,k<n→((l.drop (k*sz)).take sz).length =sz:=by
 intro n l hl;have h1: ∀k,k<n→((l.drop (k*sz)).take sz).length =sz:=fun k hk=>by have:(k+1)*sz≤n*sz:=AJ _ hk;rw [AQ,BH] at this;simp;omega
 refine ⟨?_,h1⟩;have cT:=Yq n h1;apply List.ext_getElem?;intro i;by_cases hi:i<n*sz
 ·have hsz:0<sz:=by
   rcases BT sz with e | e
   ·rw [e,Nat.mul_zero] at hi;omega
   ·exact e
  have hj:i %sz<sz:=BY _ hsz;have hq:i / sz<n:=Bw (by rw [Bn];exact hi);have e:i / sz*sz+i %sz=i:=by rw [Bn];exact B1 i sz
  have:=Wn n h1 (i / sz) (i %sz) hq hj;rw [e] at this;rw [this,Cm,AB hj,Ca,e]
 ·rw [BB (by omega),BB (by omega)]
theorem y7e {cx:Ctx} {st st':St} {w:World} (h:Rel ρ st.mem st.next w) {ts:Array TypeId} {type:TypeId} {xs:List AVal} {us:Array Value} {v:AVal} (ha:z0b P cx st ts.toList xs=some (v,st')) (hob:st'.ob=true) (hx:Wr (Yy ρ) xs us.toList):
  ∃ρ' u w',(Builtin.append_ ts type us).run P w=.ok u w'∧x2l ρ cx.floor st st' v w ρ' u w':=by
 obtain ⟨ts⟩:=ts;obtain ⟨us⟩:=us;simp only at ha hx;unfold z0b at ha;split at ha
 ·rename_i t tu tts s x txs;cases hx with
  | @cons _ su _ _ hs hx=>
   cases hx with
   | @cons _ ux _ uxs hx _=>
    split at ha
    ·rename_i e ut hu hut;split at ha
     ·rename_i i zero hi hz;split at ha
      ·rename_i b len get o1 n g o2 ht hc;obtain ⟨i2,z,hi2,hz2,hzr,_⟩:=Wv (ρ:=ρ) hz;obtain rfl:i=i2:=by rw [hi] at hi2;exact Af hi2
       obtain ⟨dU,ha⟩:=Qt ha;simp only [Ac] at dU;obtain ⟨⟨⟨hzl,hzsc⟩,hsz⟩,hfl⟩:=dU;have hzl:=Aj hzl;have hsz:=Ak hsz;have hzs:z.cells.size=i.size:=by rw [←hzr.1];exact hzl
       simp only [An,Ad] at ha;obtain ⟨st1,ho,rfl,rfl⟩:=ha;obtain ⟨_,m2,n2,o4⟩:=z8c ho;obtain ⟨hb,_⟩:=o4 hob;simp only [Ac,As] at hb;obtain ⟨hb1,hb2,hrm⟩:=hb;have m2:st1.mem=Xt (x9c st.mem b) st.next (some ⟨Yx (len+n) (Uf get len g),e,some ⟨i.size,len+n,Uf get len g⟩⟩):=m2
       have n2:st1.next=st.next+1:=n2
       obtain ⟨hgl,vs,hF,dS⟩:=x0b (P:=P) (u:=tu) (t:=t) h hu hut hi hz2 hzr hzl hzsc hsz hc hb2 hx;have hnl:=Yq n hgl
       suffices j5b P ρ cx.floor st.mem (x9c st.mem b) st.next i.size e (len+n) (Uf get len g) w fun w=>(Builtin.append_ (t::tu::tts).toArray type (su::ux::uxs).toArray).run P w by obtain ⟨ρ',u,w',cU,hv,hr,hev⟩:=this;exact ⟨ρ',u,w',cU,hv,by rw [m2,n2];exact hr,by rw [m2,n2];exact hev⟩
       unfold z4x at ht;split at ht
       ·simp only [Ae,Ad] at ht;obtain ⟨rfl,rfl,rfl,_⟩:=ht;cases hs;obtain ⟨q1,q2⟩:=y2q (get:=fun _=>[]) (len:=0) (fun i hi=>absurd hi (AO _)) hgl;exact x4j h cx.floor hF hnl hzs hsz hrm (by rw [q2];simp [Yx]) q1
       ·rename_i b0 off len0 cap;split at ht
        ·rename_i blk hm;split at ht
         ·rename_i old hold;obtain ⟨eT,ht⟩:=Qt ht;simp only [Ac] at eT;obtain ⟨eT,hoff⟩:=eT;have hoff:=Ak hoff;simp only [Ae,Ad] at ht;obtain ⟨rfl,rfl,rfl,_⟩:=ht;obtain ⟨k1,k2,k3⟩:=z5k hold;obtain ⟨r1,r2⟩:=x7e len0 old k2;obtain ⟨q1,q2⟩:=y2q r2 hgl;cases hs with
          | sl _ _ _ _ l c hρ dC hlc=>
           have hbk:=h.blk b0 l blk hρ hm;have k4:off+len0*i.size≤blk.cells.length:=(by omega);refine y5m h cx.floor hF dS hnl hzs hsz hrm hρ hm (Ak hfl) k4 hlc ?_ (by rw [q2,r1,k1]) q1;cases cap with
           | ex k=>exact .inr (by simp only [z0s] at dC;rw [dC];exact Ak eT)
           | un zz=>have:=Aj eT;simp only [z0s] at dC;exact .inl (by rw [←this];exact dC)
         ·cases ht
        ·cases ht
       ·rename_i b0 zz off len0 cap;split at ht
        ·rename_i blk hm;split at ht
         ·rename_i A hA;obtain ⟨eT,ht⟩:=Qt ht;simp only [Ae,Ad] at ht;obtain ⟨rfl,rfl,rfl,rfl⟩:=ht;simp only [Ac,As] at hb1;obtain ⟨hz1,hz2',dG⟩:=hb1;obtain rfl:=Aj hz1;have hAs:=Aj hz2';cases hs with
          | sla _ _ _ _ _ l c hρ dC hlc=>
           obtain ⟨dT,fA,dJ⟩:=(h.blk b0 l blk hρ hm).arr A hA;rw [hAs] at dJ;have hlr:=Yq A.n dJ;have hgl0: ∀k,k<len0→(A.get (off+k)).length =i.size:=fun k hk=>dJ _ (by omega);obtain ⟨q1,q2⟩:=y2q hgl0 hgl;have hm2:(off+len0)*i.size≤A.n*i.size:=AJ _ dG;rw [AQ] at hm2;refine y5m h cx.floor hF dS hnl hzs hsz hrm hρ hm (Ak hfl) (by rw [dT,hlr];exact hm2) hlc ?_ (by rw [q2,z4f dJ dG,dT]) q1;cases cap with
           | ex k=>exact .inr (by simp only [z0s] at dC;rw [dC];exact Ak eT)
           | un zz=>have:=Aj eT;simp only [z0s] at dC;exact .inl (by rw [←this] at dC ⊢;exact dC)
          | slan=>
           obtain ⟨q1,q2⟩:=y2q (get:=fun k=>A.get (off+k)) (len:=0) (fun i hi=>absurd hi (AO _)) hgl;obtain ⟨ρ',u,w',cU,hv,hr,hev⟩:=x4j (P:=P) (type:=type) (ts:=tts) (xs:=uxs) h cx.floor hF hnl hzs hsz hrm (G:=Uf (fun k=>A.get (off+k)) 0 g) (by rw [q2];simp [Yx]) q1;have hbn:b0<st.next:=by
            rcases Bi b0 st.next with g | g
            ·exact g
            ·rw [h.bd b0 g] at hm;cases hm
           refine ⟨ρ',u,w',cU,hv,?_,?_⟩
           ·refine (hr.kill b0).remem fun b'=> ?_;simp only [x9c,Ws];by_cases e1:b'=st.next
            ·rw [AB e1,Aw (by omega),AB e1]
            ·rw [Aw e1,Aw e1]
           ·refine hev.remem fun b' hb' cs ty hcs=> ?_;have hne:b'≠b0:=fun e=>by rw [e,hm] at hcs;cases hcs;cases hA
            show Yf (Xt (Xt st.mem b0 none) st.next _) b'=Yf (Xt st.mem st.next _) b';rw [Zw _ _ (by omega),Zw _ _ hne,Zw _ _ (by omega)]
         ·cases ht
        ·cases ht
       ·cases ht
      ·cases ha
     ·cases ha
    ·cases ha
 ·cases ha
theorem w1c {st st':St} {w:World} (h:Rel ρ st.mem st.next w) (floor:Nat) {ts:Array TypeId} {type:TypeId} {xs:List AVal} {us:Array Value} {v:AVal} (ha:w1e P floor st ts.toList xs=some (v,st')) (hx:Wr (Yy ρ) xs us.toList):
  ∃ρ' u w',(Builtin.copy_ ts type us).run P w=.ok u w'∧x2l ρ floor st st' v w ρ' u w'∧st'.env=st.env∧st'.ob=st.ob:=by
 obtain ⟨ts⟩:=ts;obtain ⟨us⟩:=us;simp only at ha hx;unfold w1e at ha;split at ha
 ·rename_i t _ d x _;cases hx with
  | @cons _ ud _ _ hd hx=>
   cases hx with
   | @cons _ ux _ uxs hx _=>
    split at ha
    ·rename_i e hu;split at ha
     ·rename_i i hi;split at ha
      ·rename_i m src hcs;cases hc:(Nat.beq src.length (m*i.size)&&src.all z9y) with
       | false=>rw [hc] at ha;cases ha
       | true=>
        rw [hc,Ab] at ha;simp only [Ac] at hc;have hsl:=Aj hc.1;have hsc:=hc.2;obtain ⟨cT,dP⟩:=Wt (P:=P) h hcs hx hsl;split at ha
        ·cases hd;simp only [Ae,Ad] at ha;obtain ⟨rfl,rfl⟩:=ha;obtain ⟨vs,hvs,hfc⟩:=dP 0 (AA _);have eG:(Builtin.firstCells i.size 0 ux).run P w=.ok vs w:=hfc w.drawn;refine ⟨ρ,_,w,?_,⟨.int _ _,h,Ev.refl _ _ _ _ _ h.dom⟩,rfl,rfl⟩;simp [Builtin.copy_,run_underlying hu,cT,Zi hi,eG,goInt]
        ·rename_i dn dg;obtain ⟨hdn,ha'⟩:=Qt ha;clear ha;obtain rfl:=Aj hdn;simp only [Ae,Ad] at ha';obtain ⟨rfl,rfl⟩:=ha';obtain ⟨vs,hvs,hfc⟩:=dP 0 (AA _);have eG:(Builtin.firstCells i.size 0 ux).run P w=.ok vs w:=hfc w.drawn;have hv0:vs= #[]:=by
          have:vs.size=0:=by rw [←hvs.1];simp
          exact BR this
         subst hv0;cases hd with
         | datn=>refine ⟨ρ,_,w,?_,⟨.int _ _,h,Ev.refl _ _ _ _ _ h.dom⟩,rfl,rfl⟩;simp [Builtin.copy_,run_underlying hu,cT,Zi hi,eG,goInt]
         | datz=>refine ⟨ρ,_,w,?_,⟨.int _ _,h,Ev.refl _ _ _ _ _ h.dom⟩,rfl,rfl⟩;simp [Builtin.copy_,run_underlying hu,cT,Zi hi,eG,goInt,storeCells]
         | dat=>refine ⟨ρ,_,w,?_,⟨.int _ _,h,Ev.refl _ _ _ _ _ h.dom⟩,rfl,rfl⟩;simp [Builtin.copy_,run_underlying hu,cT,Zi hi,eG,goInt,storeCells]
        ·rename_i b off len cap;split at ha
         ·rename_i blk hm;dsimp only at ha;cases hf:(Nat.ble floor b&&Nat.ble (off+(Nat.min m len)*i.size) blk.cells.length) with
          | false=>rw [hf] at ha;cases ha
          | true=>
           rw [hf,Ab] at ha;simp only [Ac] at hf;have hfl:=Ak hf.1;have dG:=Ak hf.2;simp only [Ae,Ad] at ha;obtain ⟨rfl,rfl⟩:=ha;cases hd with
           | sl _ _ _ _ l c hρ dC hlc=>
            have hmin:Nat.min m len≤m:=Nat.min_le_left _ _;have fG:Nat.min m len*i.size≤m*i.size:=AJ _ hmin;obtain ⟨vs,hvs,hfc⟩:=dP (Nat.min m len) hmin;have eG:(Builtin.firstCells i.size (Nat.min m len) ux).run P w=.ok vs w:=hfc w.drawn;have dS:=Yy.cells_oneCell hvs (Au.2 fun a ha=>Au.1 hsc a (Ce ha));have hvl:(src.take (Nat.min m len*i.size)).length =Nat.min m len*i.size:=by rw [A0,hsl];omega
            obtain ⟨cur,el,hw,eU,cS⟩:=h.write hρ hm (off:=off) (cs:=src.take (Nat.min m len*i.size)) (vs:=vs.toList) (by simpa using hvs.1.symm) (by rw [hvl];exact dG) (fun j h1 h2=>by simpa using hvs.2 j h1 (by simpa using h2));have hst:=run_storeCells_at P l.blk (l.base+off) el vs.toList 0 cur w hw (by rw [A5];exact eU) dS;rw [A5] at hst;refine ⟨ρ,.int .i64 (Nat.min m len),w.setRow l.blk (cur.toList.take (l.base+off)++vs.toList++cur.toList.drop (l.base+off+vs.toList.length)).toArray,?_,⟨.int _ _,?_,Ev.ofWrite h hρ hfl _ _⟩,rfl,rfl⟩
            ·simp [Builtin.copy_,run_underlying hu,cT,Zi hi,eG,goInt,hst,-Array.length_toList,-List.append_assoc]
            ·rw [hvl] at cS
             simpa only [St.withMem] using cS
         ·cases ha
        ·cases ha
      ·cases ha
     ·cases ha
    ·cases ha
 ·cases ha
theorem v4r {mem:Mem} {next:Nat} {w:World} (h:Rel ρ mem next w) {n sz:Nat} {g:Nat→List AVal} {ux:Value} (hx:Yy ρ (.dat n g) ux) (hg: ∀i,i<n→(g i).length =sz) (hsz:1≤sz) {m:Nat} (hm:m≤n):
  (∀w,(Builtin.lenOf ux).run P w=.ok n w)∧ ∃vs:Array Value,Vr ρ (Yx m g) vs∧ ∀d,(Builtin.firstCells sz m ux).run P {w with drawn:=d}=.ok vs {w with drawn:=d}:=by
 cases hx with
 | datn=>
  obtain rfl:m=0:=by omega
  exact ⟨fun w=>by simp [Builtin.lenOf], #[],⟨by simp [Yx],fun i h1 h2=>by simp [Yx] at h1⟩,fun d=>by simp [Builtin.firstCells]⟩
 | datz=>
  obtain rfl:m=0:=by omega
  exact ⟨fun w=>by simp [Builtin.lenOf], #[],⟨by simp [Yx],fun i h1 h2=>by simp [Yx] at h1⟩,fun d=>by simp [Builtin.firstCells,loadCells,loadCellsFrom]⟩
 | dat _ _ blk base sz' cap val dC eV hv hh=>
  refine ⟨fun w=>by simp [Builtin.lenOf],?_⟩;have hg': ∀i,i<m→(g i).length =sz:=fun i hi=>hg i (by omega);have hl:=Yq m hg';have hdiv: ∀k,k<m*sz→k / sz<m∧k %sz<sz∧k / sz*sz+k %sz=k:=fun k hk=>
   ⟨Bw (by rw [Bn];exact hk),BY _ hsz,by rw [Bn];exact B1 k sz⟩
  have dW: ∀(d k:Nat),k<m*sz→({w with drawn:=d}:World).cell? ((⟨blk,base,none⟩:Addr).add k)=some (val (k / sz) (k %sz)):=by
   intro d k hk;obtain ⟨hq,hj,e4⟩:=hdiv k hk;have hs:sz'=sz:=by rw [←eV (k / sz) (by omega),hg' _ hq]
   obtain ⟨cs,el,fz,e1,e2⟩:=hh (k / sz) (k %sz) (by omega) (by omega);have e3:=h.old _ _ e1;rw [hs,e4] at e2;rw [Xg];simp only [World.cell?,e3];exact e2
  refine ⟨_,⟨?_,?_⟩,fun d=>by simp only [Builtin.firstCells];exact run_loadCells _ _ _ (fun k=>val (k / sz) (k %sz)) (dW d)⟩
  ·simp [hl]
  ·intro k h1 h2;obtain ⟨hq,hj,e4⟩:=hdiv k (by rw [←hl];exact h1);have hj':k %sz<(g (k / sz)).length :=by rw [hg' _ hq];exact hj
   have hr:=Wn m hg' (k / sz) (k %sz) hq hj;rw [e4,Aq h1,Aq hj'] at hr;rw [Af hr]
   simpa using (hv (k / sz) (k %sz) (by omega) hj').mono (x1y ρ)
theorem x2y {g:Nat→List AVal} {sz n m:Nat} (hg: ∀i,i<n→(g i).length =sz) (hm:m≤n):(Yx n g).take (m*sz)=Yx m g:=by have:=z4f (off:=0) (len:=m) hg (by omega);simp only [Bj,A3,Ag] at this;exact this.symm
theorem v0t {get g:Nat→List AVal} {sz N off n:Nat} (hl: ∀i,i<N→(get i).length =sz) (hg: ∀i,i<n→(g i).length =sz) (h:off+n≤N):
  (∀i,i<N→(Ue get off n g i).length =sz)∧Yx N (Ue get off n g)=(Yx N get).take (off*sz)++Yx n g++(Yx N get).drop (off*sz+n*sz):=by
 have h1: ∀i,i<N→(Ue get off n g i).length =sz:=fun i hi=>by
  unfold Ue;cases e:(Nat.ble off i&&Nat.ble (i+1) (off+n)) with
  | true=>simp only [Ac] at e;have e1:=Ak e.1;have e2:=Ak e.2;simp only [Ab];exact hg _ (by omega)
  | false=>exact hl _ hi
 refine ⟨h1,?_⟩;obtain ⟨r,rfl⟩: ∃r,N=off+(n+r):=⟨N - off - n,by omega⟩
 have e2:off*sz+n*sz=(off+n)*sz:=(AQ _ _ _).symm;rw [x2y hl (by omega),e2];have e3:(Yx (off+(n+r)) get).drop ((off+n)*sz)=Yx r fun k=>get (off+n+k):=by rw [z4f (off:=off+n) (len:=r) hl (by omega)];rw [AP];have:=Yq _ hl;rw [BV,this,←Nat.sub_mul,show off+(n+r) - (off+n)=r by omega];exact Ao _
 rw [e3];unfold Yx;rw [List.range_add,List.range_add,Bt,By,Bt,←AH]
 congr 1
 ·congr 1
  ·refine Js fun i hi=> ?_;have:=A2.1 hi;unfold Ue;rw [show Nat.ble off i=false from A8.2 fun e=>by have:=Ak e;omega];rfl
  ·rw [List.flatMap_map];refine Js fun i hi=> ?_;have:=A2.1 hi;unfold Ue;rw [Bh (show off≤off+i by omega),Bh (show off+i+1≤off+n by omega),Nat.add_sub_cancel_left];rfl
 ·rw [List.map_map,List.flatMap_map];refine Js fun i hi=> ?_;unfold Ue;show (bif Nat.ble off (off+(n+i))&&Nat.ble (off+(n+i)+1) (off+n) then _ else _)=_;rw [show Nat.ble (off+(n+i)+1) (off+n)=false from A8.2 fun e=>by have:=Ak e;omega,Bool.and_false,Aa];show get (off+(n+i))=get (off+n+i);rw [AD]
theorem x1s {mem:Mem} {next:Nat} {w:World} (h:Rel ρ mem next w) {sz:Nat} (hsz:1≤sz) {x:AVal} {ux:Value} {m:Nat} {g:Nat→List AVal} {o:Bool} (hc:w0p mem sz x=some (m,g,o)) (ho:o=true) (hx:Yy ρ x ux):
  (∀k,k<m→(g k).length =sz∧(g k).all z9y=true)∧ ∀n,n≤m→(∀w,(Builtin.lenOf ux).run P w=.ok m w)∧ ∃vs:Array Value,Vr ρ (Yx n g) vs∧ ∀d,(Builtin.firstCells sz n ux).run P {w with drawn:=d}=.ok vs {w with drawn:=d}:=by
 subst ho;have part: ∀(b z off len c:Nat) (l:Loc) (blk:ABlk) (A:Arr),ρ b=some l→Yf mem b=some blk→blk.arr=some A→len≤c→(Nat.beq z sz&&(Nat.beq A.sz sz&&(decide (off+len≤A.n)&&pd (∀i,i<len→(A.get (off+i)).length =sz∧(A.get (off+i)).all z9y=true))))=true→
   (∀k,k<len→(A.get (off+k)).length =sz∧(A.get (off+k)).all z9y=true)∧ ∀n,n≤len→(∀w,(Builtin.lenOf (.slice (some ⟨l.blk,l.base+off*z,none⟩) len c)).run P w=.ok len w)∧ ∃vs:Array Value,Vr ρ (Yx n fun k=>A.get (off+k)) vs∧ ∀d,(Builtin.firstCells sz n (.slice (some ⟨l.blk,l.base+off*z,none⟩) len c)).run P {w with drawn:=d}=.ok vs {w with drawn:=d}:=by
  intro b z off len c l blk A hρ hm hA cT ho;simp only [Ac,As] at ho;obtain ⟨k1,k2,k3,k4⟩:=ho;obtain rfl:=Aj k1;have k2:=Aj k2;have k4:= @AC _ (Classical.propDecidable _) k4;refine ⟨k4,fun n hn=> ?_⟩;obtain ⟨dT,fA,dJ⟩:=(h.blk b l blk hρ hm).arr A hA;rw [k2] at dJ;have hlr:=Yq A.n dJ;have hm2:(off+len)*z≤A.n*z:=AJ _ k3;rw [AQ] at hm2;have hpl:=z4f dJ k3;have hL:(Yx len fun k=>A.get (off+k)).length =len*z:=Yq len fun i hi=>(k4 i hi).1;have hcs:Xz mem z (.sl b (off*z) len (.ex c))=some (len,Yx len fun k=>A.get (off+k)):=by simp only [Xz,hm];unfold cut;simp only;rw [dT,←hpl,show Nat.beq (Yx len fun k=>A.get (off+k)).length (len*z)=true from by rw [hL,B4]];rfl
  obtain ⟨q1,q2⟩:=Wt (P:=P) h hcs (.sl b (off*z) len (.ex c) l c hρ rfl cT) hL;obtain ⟨vs,v1,v2⟩:=q2 n hn;rw [x2y (fun i hi=>(k4 i hi).1) hn] at v1;exact ⟨q1,vs,v1,v2⟩
 have none0: ∀(g:Nat→List AVal) (n:Nat) (p:Option Addr) (c:Nat),n≤0→(∀w,(Builtin.lenOf (.slice p 0 c)).run P w=.ok 0 w)∧ ∃vs:Array Value,Vr ρ (Yx n g) vs∧ ∀d,(Builtin.firstCells sz n (.slice p 0 c)).run P {w with drawn:=d}=.ok vs {w with drawn:=d}:=by
  intro g n p c hn;obtain rfl:n=0:=by omega
  cases p with
  | none=>exact ⟨fun w=>by simp [Builtin.lenOf], #[],⟨by simp [Yx],fun i h1 h2=>by simp [Yx] at h1⟩,fun d=>by simp [Builtin.firstCells]⟩
  | some a=>refine ⟨fun w=>by simp [Builtin.lenOf],_,⟨?_,fun i h1 h2=>by simp [Yx] at h1⟩,fun d=>by simp only [Builtin.firstCells];exact run_loadCells _ _ _ (fun _=>undef) fun k hk=>by rw [Bj] at hk;exact absurd hk (AO _)⟩;simp [Yx]
 unfold w0p at hc;split at hc
 ·simp only [Ae,Ad] at hc;obtain ⟨rfl,rfl,_⟩:=hc;cases hx;exact ⟨fun k hk=>absurd hk (AO _),fun n hn=>none0 _ n none 0 hn⟩
 ·rename_i n' g';simp only [Ae,Ad] at hc;obtain ⟨rfl,rfl,h0⟩:=hc;have hp:= @AC _ (Classical.propDecidable _) h0;exact ⟨hp,fun n hn=>v4r (P:=P) h hx (fun i hi=>(hp i hi).1) hsz hn⟩
 ·split at hc
  ·rename_i blk hm;split at hc
   ·rename_i A hA;simp only [Ae,Ad] at hc;obtain ⟨rfl,rfl,h0⟩:=hc;cases hx with
    | sla _ _ _ _ _ l c hρ dC cT=>exact part _ _ _ _ _ l _ _ hρ hm hA cT h0
    | slan=>exact ⟨fun k hk=>absurd hk (AO _),fun n hn=>none0 _ n none 0 hn⟩
   ·cases hc
  ·cases hc
 ·split at hc
  ·rename_i blk hm;split at hc
   ·rename_i A hA;simp only [Ae,Ad] at hc;obtain ⟨rfl,rfl,h0⟩:=hc;cases hx with
    | slv _ _ _ _ l c hρ cT=>exact part _ _ _ _ _ l _ _ hρ hm hA cT h0
    | slve=>exact ⟨fun k hk=>absurd hk (AO _),fun n hn=>none0 _ n _ _ hn⟩
    | slvn=>exact ⟨fun k hk=>absurd hk (AO _),fun n hn=>none0 _ n none 0 hn⟩
   ·cases hc
  ·cases hc
 ·cases hc
theorem Rel.reblk {mem:Mem} {next:Nat} {w:World} (h:Rel ρ mem next w) {b:Nat} {blk blk':ABlk} (hm:Yf mem b=some blk) (hb: ∀l,ρ b=some l→Ux ρ w blk l→Ux ρ w blk' l):Rel ρ (Xt mem b (some blk')) next w:=by
 have iff: ∀c,(Yf (Xt mem b (some blk')) c).isSome =true→(Yf mem c).isSome =true:=fun c hc=>by
  rw [Ws] at hc;by_cases e:c=b
  ·rw [e,hm];rfl
  ·rwa [Aw e] at hc
 have hlt:b<next:=by
  rcases Bi b next with q | q
  ·exact q
  ·rw [h.bd b q] at hm;cases hm
 refine ⟨h.dom,fun c c' m m' e e' he hs hs'=>h.inj c c' m m' e e' he (iff c hs) (iff c' hs'),fun c m ac e hc=> ?_,h.old,fun c m e hs=>h.sep c m e (iff c hs),h.real,fun c hc=> ?_,h.ldom⟩
 ·rw [Ws] at hc;by_cases ec:c=b
  ·subst ec;rw [AB rfl] at hc;obtain rfl:=Af hc;exact hb m e (h.blk c m blk e hm)
  ·rw [Aw ec] at hc;exact h.blk c m ac e hc
 ·rw [Zw _ _ (by omega)];exact h.bd c hc
theorem Ev.put {mem:Mem} {next:Nat} {w:World} (h:Rel ρ mem next w) (floor:Nat) {b:Nat} {blk:ABlk} {A:Arr} (hm:Yf mem b=some blk) (hA:blk.arr=some A) (o:Option ABlk):Ev ρ ρ floor mem next (Xt mem b o) next w w where
 ext:=Rho.le_refl _
 new _ _:=rfl
 nxt:=Ao _
 unborn k _ e cs ty hk:=by
  by_cases hkb:k=b
  ·subst hkb;rw [hm] at hk;cases hk;cases hA
  ·rw [Zw _ _ hkb];exact hk
 frame _ _ hk _:=hk
 fresh k m hk e:=by have:=h.dom k m e;omega
 size:=Ao _
 os:=rfl
 tape:=rfl
 output:=rfl
 still _ _:=rfl
theorem y1l {cx:Ctx} {st st':St} {w:World} (h:Rel ρ st.mem st.next w) {ts:Array TypeId} {type:TypeId} {us:Array Value} {b sz off len:Nat} {d x:AVal} {xs:List AVal} {v:AVal} (ha:y1m P cx st ts.toList b sz off len x=some (v,st')) (hob:st'.ob=true) (hx:Wr (Yy ρ) (d::x::xs) us.toList)
  (hd: ∀u,Yy ρ d u→(∃l c,ρ b=some l∧len≤c∧u=.slice (some ⟨l.blk,l.base+off*sz,none⟩) len c)∨(len=0∧ ∃p c,u=.slice p 0 c)):
  ∃ρ' u w',(Builtin.copy_ ts type us).run P w=.ok u w'∧x2l ρ cx.floor st st' v w ρ' u w':=by
 obtain ⟨ts⟩:=ts;obtain ⟨us⟩:=us;simp only at ha hx;unfold y1m at ha;split at ha
 ·rename_i t _;cases hx with
  | @cons _ ud _ _ hd0 hx=>
   cases hx with
   | @cons _ ux _ uxs hx _=>
    split at ha
    ·rename_i e hu;split at ha
     ·rename_i i blk hi hm;split at ha
      ·rename_i A m g o hA hcs;obtain ⟨dU,ha⟩:=Qt ha;simp only [Ac] at dU;have hfl:=Ak dU.1;have hsz:=Ak dU.2;simp only [An,Ad] at ha;obtain ⟨st1,ho,rfl,rfl⟩:=ha;obtain ⟨_,m2,n2,o4⟩:=z8c ho;obtain ⟨hb,_⟩:=o4 hob;simp only [Ac,As] at hb;obtain ⟨k1,k2,k3,k4⟩:=hb;obtain rfl:=Aj k1;have k2:=Aj k2;have m2:st1.mem=Xt st.mem b (some ⟨Yx A.n (Ue A.get off (Nat.min m len) g),blk.ty,some ⟨A.sz,A.n,Ue A.get off (Nat.min m len) g⟩⟩):=m2;have n2:st1.next=st.next:=n2
       obtain ⟨hg,dP⟩:=x1s (P:=P) h hsz hcs k4 hx;have hmin:Nat.min m len≤m:=Nat.min_le_left _ _;have hmin2:Nat.min m len≤len:=Nat.min_le_right _ _;obtain ⟨cT,vs,hvs,hfc⟩:=dP (Nat.min m len) hmin;have eG:(Builtin.firstCells i.size (Nat.min m len) ux).run P w=.ok vs w:=hfc w.drawn;have hgl: ∀k,k<Nat.min m len→(g k).length =i.size:=fun k hk=>(hg k (by omega)).1;have hrl:=Yq (Nat.min m len) hgl;have dS:=Yy.cells_oneCell hvs (y2r _ fun k hk=>(hg k (by omega)).2);have hbn:b<st.next:=by
        rcases Bi b st.next with q | q
        ·exact q
        ·rw [h.bd b q] at hm;cases hm
       have nothing:Nat.min m len=0→Rel ρ st1.mem st1.next w∧Ev ρ ρ cx.floor st.mem st.next st1.mem st1.next w w:=fun e0=>by
        rw [m2,n2,e0];have same: ∀k,Ue A.get off 0 g k=A.get k:=fun k=>by
         unfold Ue;cases e:(Nat.ble off k&&Nat.ble (k+1) (off+0)) with
         | true=>simp only [Ac] at e;have e1:=Ak e.1;have e2:=Ak e.2;omega
         | false=>rfl
        have same:Ue A.get off 0 g=A.get:=funext same;rw [same];refine ⟨?_,Ev.put h cx.floor hm hA _⟩;refine h.reblk hm fun l hρ hbk=> ?_;obtain ⟨dT,fA,dJ⟩:=hbk.arr A hA;refine ⟨by rw [hbk.n,dT],hbk.tot,fun B hB=> ?_,?_⟩
        ·obtain rfl:=Af hB;exact ⟨rfl,fA,dJ⟩
        ·have:=hbk.cells;rw [dT] at this;exact this
       rcases hd ud hd0 with ⟨l,c,hρ,hlc,rfl⟩ | ⟨rfl,p,c,rfl⟩
       ·obtain ⟨dT,fA,dJ⟩:=(h.blk b l blk hρ hm).arr A hA;rw [k2] at dJ;have hlr:=Yq A.n dJ;have hfitN:off+Nat.min m len≤A.n:=(by omega);obtain ⟨c1,c2⟩:=v0t dJ hgl hfitN;have hm3:(off+Nat.min m len)*i.size≤A.n*i.size:=AJ _ hfitN;rw [AQ] at hm3;obtain ⟨cur,el,hw,eU,cS⟩:=h.write hρ hm (off:=off*i.size) (cs:=Yx (Nat.min m len) g) (vs:=vs.toList) (by simpa using hvs.1.symm) (by rw [hrl,dT,hlr];exact hm3) (fun j h1 h2=>by simpa using hvs.2 j h1 (by simpa using h2));have hst:=run_storeCells_at P l.blk (l.base+off*i.size) el vs.toList 0 cur w hw (by rw [A5];exact eU) dS;rw [A5] at hst;rw [hrl,dT,←c2] at cS;refine ⟨ρ,.int .i64 (Nat.min m len:Nat),w.setRow l.blk (cur.toList.take (l.base+off*i.size)++vs.toList++cur.toList.drop (l.base+off*i.size+vs.toList.length)).toArray,?_,.int _ _,?_,?_⟩
        ·have hl2:=cT w;simp [Builtin.copy_,run_underlying hu,cT,Zi hi,eG,goInt,hst,-Array.length_toList,-List.append_assoc]
        ·rw [m2,n2];have:=cS.setArr ⟨A.sz,A.n,.flat (Ue A.get off (Nat.min m len) g)⟩ rfl fA (by rw [k2];exact c1);exact this
        ·rw [m2,n2];exact Ev.ofWrite h hρ hfl _ _
       ·have e0:Nat.min m 0=0:=Nat.min_zero m;obtain ⟨n1,n3⟩:=nothing e0;refine ⟨ρ,.int .i64 (Nat.min m 0:Nat),w,?_,.int _ _,n1,n3⟩;rw [e0] at eG hvs;have hv0:vs= #[]:=by
         have:vs.size=0:=by rw [←hvs.1];simp [Yx]
         exact BR this
        subst hv0;cases p with
        | none=>simp [Builtin.copy_,run_underlying hu,cT,Zi hi,eG,goInt]
        | some a=>simp [Builtin.copy_,run_underlying hu,cT,Zi hi,eG,goInt,storeCells]
      ·cases ha
     ·cases ha
    ·cases ha
 ·cases ha
theorem x5d {st st':St} {w:World} (h:Rel ρ st.mem st.next w) (floor:Nat) {ts:Array TypeId} {type:TypeId} {xs:List AVal} {us:Array Value} {v:AVal} (ha:y6m P floor st ts.toList xs=some (v,st')) (hx:Wr (Yy ρ) xs us.toList):
  ∃ρ' u w',(Builtin.clear_ ts type us).run P w=.ok u w'∧x2l ρ floor st st' v w ρ' u w'∧st'.env=st.env∧st'.ob=st.ob:=by
 obtain ⟨ts⟩:=ts;obtain ⟨us⟩:=us;simp only at ha hx;unfold y6m at ha;have unit:Yy ρ (.tup []) (.tuple #[]):=.tup [] #[] rfl fun i h1 _=>by simp at h1
 split at ha
 ·rename_i t _ d _;cases hx with
  | @cons _ ud _ _ hd _=>
   split at ha
   ·rename_i e hu;split at ha
    ·rename_i i zero hi hz;obtain ⟨i2,z,hi2,_,hzr,hzv⟩:=Wv (ρ:=ρ) hz;split at ha
     ·cases hd;simp only [Ae,Ad] at ha;obtain ⟨rfl,rfl⟩:=ha;exact ⟨ρ,.tuple #[],w,by simp [Builtin.clear_,run_underlying hu],⟨unit,h,Ev.refl _ _ _ _ _ h.dom⟩,rfl,rfl⟩
     ·rename_i b off len cap;cases hd with
      | sl _ _ _ _ l c hρ dC hlc=>
       rcases (by cases hl0:Nat.beq len 0 with
         | true=>rw [hl0] at ha;exact .inl ⟨rfl,ha⟩
         | false=>rw [hl0] at ha;exact .inr ⟨rfl,ha⟩:(Nat.beq len 0=true∧_)∨(Nat.beq len 0=false∧_)) with ⟨hl0,ha⟩ | ⟨hl0,ha⟩
       ·have hl0:=Aj hl0;subst hl0;simp only [Ab,Ae,Ad] at ha;obtain ⟨rfl,rfl⟩:=ha;exact ⟨ρ,.tuple #[],w,by simp [Builtin.clear_,run_underlying hu],⟨unit,h,Ev.refl _ _ _ _ _ h.dom⟩,rfl,rfl⟩
       ·obtain ⟨hc,ha⟩:=Qt ha;simp only [Ac] at hc;obtain ⟨⟨hzl,hzs⟩,hfl⟩:=hc;have hzl:=Aj hzl;have hfl:=Ak hfl;split at ha
        ·rename_i blk hm;obtain ⟨dG,ha⟩:=Qt ha;have dG:=Ak dG;simp only [Ae,Ad] at ha;obtain ⟨rfl,rfl⟩:=ha;have hrl:(rep len zero).length =len*i.size:=(by rw [z0e,hzl]);have eB:Vr ρ (rep len zero) (Builtin.zeroCells z.cells len):=z9m hzr len (len*z.cells.size) (by rw [hzr.1]);have dS: ∀v∈(Builtin.zeroCells z.cells len).toList,v.oneCell'=true:=Yy.cells_oneCell eB (by
          refine Au.2 fun a ha=>Au.1 hzs a ?_;unfold rep at ha;obtain ⟨l,hl,hal⟩:=List.mem_flatten.1 ha;rw [(List.mem_replicate.1 hl).2] at hal;exact hal)
         obtain ⟨cur,el,hw,eU,cS⟩:=h.write hρ hm (off:=off) (cs:=rep len zero) (vs:=(Builtin.zeroCells z.cells len).toList) (by simpa using eB.1.symm) (by rw [hrl];exact dG) (fun j h1 h2=>by simpa using eB.2 j h1 (by simpa using h2));have hst:=run_storeCells_at P l.blk (l.base+off) el (Builtin.zeroCells z.cells len).toList 0 cur w hw (by rw [A5];exact eU) dS;rw [A5] at hst;have hne:len≠0:=fun e=>by rw [e] at hl0;cases hl0
         refine ⟨ρ,.tuple #[],w.setRow l.blk (cur.toList.take (l.base+off)++(Builtin.zeroCells z.cells len).toList ++cur.toList.drop (l.base+off+(Builtin.zeroCells z.cells len).toList.length)).toArray,?_,⟨unit,?_,Ev.ofWrite h hρ hfl _ _⟩,rfl,rfl⟩
         ·obtain ⟨len',rfl⟩: ∃k,len=k+1:=⟨len - 1,by omega⟩
          simp [Builtin.clear_,run_underlying hu,hzv,hst,-Array.length_toList,-List.append_assoc]
         ·rw [hrl] at cS
          simpa only [St.withMem] using cS
        ·cases ha
     ·cases ha
    ·cases ha
   ·cases ha
 ·cases ha
end
section
variable {P:Program} {ρ:Rho}
structure Xd (floor:Nat) (st st':St):Prop where
 nxt:st.next≤st'.next
 bd:(∀b,st.next≤b→Yf st.mem b=none)→ ∀b,st'.next≤b→Yf st'.mem b=none
 low:floor≤st.next→ ∀b,b<floor→Yf st'.mem b=Yf st.mem b
 ob:st'.ob=true→st.ob=true
theorem Xd.refl (floor:Nat) (st:St):Xd floor st st:=⟨Ao _,fun h=>h,fun _ _ _=>rfl,fun h=>h⟩
theorem Xd.trans {floor:Nat} {a b c:St} (h:Xd floor a b) (k:Xd floor b c):Xd floor a c:=
 ⟨AL h.nxt k.nxt,fun x=>k.bd (h.bd x),fun x d hd=>(k.low (AL x h.nxt) d hd).trans (h.low x d hd),fun x=>h.ob (k.ob x)⟩
theorem Xd.write {floor:Nat} (st:St) {b:Nat} {ab:ABlk} (o:Option ABlk) (hf:floor≤b) (hm:Yf st.mem b=some ab):Xd floor st (st.withMem (Xt st.mem b o)) where
 nxt:=Ao _
 bd h k hk:=by
  have hne:k≠b:=fun e=>by rw [e,] at hk;rw [h b hk] at hm;cases hm
  show Yf (Xt st.mem b o) k=none;rw [Zw _ _ hne];exact h k hk
 low _ k hk:=Zw _ _ (by omega)
 ob h:=h
theorem Xd.new {floor:Nat} (st:St) (cs:List AVal) (ty:TypeId):Xd floor st (y0i st cs ty) where
 nxt:=Co _
 bd h k hk:=by
  have hk':st.next+1≤k:=hk
  show Yf (Xt st.mem st.next _) k=none;rw [Zw _ _ (by omega)];exact h k (by omega)
 low hf k hk:=Zw _ _ (by omega)
 ob h:=h
def w3z (R:Runner):Prop:= ∀cx todo st st',R cx todo st=some st'→Xd cx.floor st st'
theorem Xh {cx:Ctx} {st st':St} {b:Bool} (h:st.owe cx b=some st'):st'.env=st.env∧st'.mem=st.mem∧st'.next=st.next∧(st'.ob=true→b=true∧st.ob=true):=by
 obtain ⟨env,mem,next,orc,ob⟩:=st;unfold St.owe at h;dsimp only at h;cases hs:cx.sym with
 | true=>rw [hs,Ab] at h;obtain rfl:=Af h;exact ⟨rfl,rfl,rfl,fun h=>by simp only [Ac] at h;exact ⟨h.1,h.2⟩⟩
 | false=>
  rw [hs,Aa] at h;cases b with
  | false=>cases h
  | true=>obtain rfl:=Af h;exact ⟨rfl,rfl,rfl,fun h=>⟨rfl,h⟩⟩
theorem y3w {st st':St} {b e:Bool} (h:st.test b=(e,st')):st'.env=st.env∧st'.mem=st.mem∧st'.next=st.next∧(st'.ob=true→e=b∧st.ob=true):=by
 obtain ⟨env,mem,next,orc,ob⟩:=st;cases orc with
 | nil=>simp only [St.test,Ad] at h;obtain ⟨rfl,rfl⟩:=h;exact ⟨rfl,rfl,rfl,fun h=>⟨rfl,h⟩⟩
 | cons c r=>simp only [St.test,Ad] at h;obtain ⟨rfl,rfl⟩:=h;refine ⟨rfl,rfl,rfl,fun h=> ?_⟩;simp only [Ac,beq_iff_eq] at h;exact ⟨h.1.symm,h.2⟩
theorem Wd {cx:Ctx} {st st':St} {dst:Option Tmp} {v:AVal} (h:st.put cx dst v=some st'):st'.mem=st.mem∧st'.next=st.next∧st'.ob=st.ob∧
  ((dst=none∧st'.env=st.env)∨ ∃d,dst=some d∧d<cx.n∧st'.env=T.set .undef st.env d v):=by
 obtain ⟨env,mem,next,orc,ob⟩:=st;cases dst with
 | none=>simp only [St.put,Ae] at h;subst h;exact ⟨rfl,rfl,rfl,.inl ⟨rfl,rfl⟩⟩
 | some d=>
  simp only [St.put] at h;cases hb:Nat.ble (d+1) cx.n with
  | false=>rw [hb] at h;cases h
  | true=>rw [hb,Ab] at h;obtain rfl:=Af h;exact ⟨rfl,rfl,rfl,.inr ⟨d,rfl,Ak hb,rfl⟩⟩
theorem Xd.same {floor:Nat} {st st':St} (hm:st'.mem=st.mem) (hn:st'.next=st.next) (ho:st'.ob=true→st.ob=true):Xd floor st st':=
 ⟨by rw [hn];exact Ao _,fun h b hb=>by rw [hm];exact h b (by rw [←hn];exact hb),fun _ b _=>by rw [hm],ho⟩
theorem Zr {α:Type} {c:Bool} {x:Option α} {y:α} (h:(bif c then x else none)=some y):c=true∧x=some y:=by
 cases c with
 | false=>cases h
 | true=>exact ⟨rfl,h⟩
theorem Uh {α:Type} {c:Bool} {x z:Option α} {y:α} (h:(bif c then x else z)=some y):(c=true∧x=some y)∨(c=false∧z=some y):=by
 cases c with
 | false=>exact .inr ⟨rfl,h⟩
 | true=>exact .inl ⟨rfl,h⟩
theorem w8i {floor:Nat} {st st':St} {t:TypeId} {x v:AVal} (h:y6f P floor st t x v=some st'):Xd floor st st'∧st'.env=st.env:=by
 unfold y6f at h;split at h
 ·obtain ⟨hc,h⟩:=Zr h;simp only [Ac] at hc;split at h
  ·rename_i blk hm;obtain ⟨_,h⟩:=Zr h;obtain rfl:=Af h;exact ⟨Xd.write st _ (Ak hc.1.1.1) hm,rfl⟩
  ·cases h
 ·cases h
theorem w0z {cx:Ctx} {st st':St} {t:TypeId} {x v:AVal} (h:z7b P cx st t x v=some st'):Xd cx.floor st st'∧st'.env=st.env:=by
 unfold z7b at h;split at h
 ·obtain ⟨hc,h⟩:=Zr h;simp only [Ac] at hc;split at h
  ·rename_i blk hm;split at h
   ·split at h
    ·rename_i rw1 st1 eH;obtain ⟨s1,s2,s3,s4⟩:=z6e eH;obtain ⟨o1,o2,o3,o4⟩:=Xh h;have a1:Xd cx.floor st st1:=Xd.same s2 s3 fun x=>(s4 x).2;exact ⟨(a1.trans (Xd.write st1 _ (Ak hc.1.1.1.1) (by rw [s2];exact hm))).trans (Xd.same o2 o3 fun x=>(o4 x).2),o1.trans s1⟩
    ·cases h
   ·cases h
  ·cases h
 ·cases h
theorem y6o {st st':St} {t:TypeId} {len:Nat} {ps:List (Nat×AVal)} {v:AVal} {un:Bool} (floor:Nat) (h:Jh P un st t len ps=some (v,st')):Xd floor st st'∧st'.env=st.env:=by
 unfold Jh at h;split at h
 ·split at h
  ·obtain ⟨_,h⟩:=Zr h;split at h
   ·simp only [Ae,Ad] at h;obtain ⟨_,rfl⟩:=h;exact ⟨Xd.new st _ _,rfl⟩
   ·cases h
  ·cases h
 ·cases h
theorem z6a {st st':St} {t:TypeId} {x y v:AVal} (floor:Nat) (h:Vn P st t x y=some (v,st')):Xd floor st st'∧st'.env=st.env:=by
 unfold Vn at h;split at h
 ·split at h
  ·obtain ⟨_,h⟩:=Zr h;simp only [Ae,Ad] at h;obtain ⟨_,rfl⟩:=h;exact ⟨Xd.new st _ _,rfl⟩
  ·cases h
 ·cases h
theorem w1h {floor:Nat} {st st':St} {ts:List TypeId} {xs:List AVal} {v:AVal} (h:z0n P floor st ts xs=some (v,st')):Xd floor st st'∧st'.env=st.env:=by
 unfold z0n at h;split at h
 ·split at h
  ·split at h
   ·split at h
    ·obtain ⟨_,h⟩:=Zr h;split at h
     ·rcases Uh h with ⟨_,h⟩ | ⟨_,h⟩
      ·simp only [Ae,Ad] at h;obtain ⟨_,rfl⟩:=h;exact ⟨Xd.refl _ _,rfl⟩
      ·obtain ⟨_,h⟩:=Zr h;simp only [Ae,Ad] at h;obtain ⟨_,rfl⟩:=h;exact ⟨Xd.new st _ _,rfl⟩
     ·split at h
      ·rename_i blk hm;split at h
       ·obtain ⟨_,h⟩:=Zr h;split at h
        ·rcases Uh h with ⟨_,h⟩ | ⟨_,h⟩
         ·obtain ⟨hc,h⟩:=Zr h;simp only [Ac] at hc;simp only [Ae,Ad] at h;obtain ⟨_,rfl⟩:=h;exact ⟨Xd.write st _ (Ak hc.1) hm,rfl⟩
         ·simp only [Ae,Ad] at h;obtain ⟨_,rfl⟩:=h;exact ⟨Xd.new st _ _,rfl⟩
        ·obtain ⟨hc,h⟩:=Zr h;simp only [Ac] at hc;have hf:=Ak hc.2;rcases Uh h with ⟨_,h⟩ | ⟨_,h⟩
         ·simp only [Ae,Ad] at h;obtain ⟨_,rfl⟩:=h;exact ⟨Xd.write st _ hf hm,rfl⟩
         ·obtain ⟨_,h⟩:=Zr h;simp only [Ae,Ad] at h;obtain ⟨_,rfl⟩:=h;exact ⟨(Xd.write st none hf hm).trans (Xd.new _ _ _),rfl⟩
       ·cases h
      ·cases h
     ·cases h
    ·cases h
   ·cases h
  ·cases h
 ·cases h
theorem Xd.put {floor:Nat} (st:St) (cs:Option ABlk) {st':St} (hm:st'.mem=Xt st.mem st.next cs) (hn:st'.next=st.next+1) (ho:st'.ob=true→st.ob=true):Xd floor st st' where
 nxt:=by rw [hn];exact Co _
 bd h k hk:=by rw [hn] at hk;rw [hm,Zw _ _ (by omega)];exact h k (by omega)
 low hf k hk:=by rw [hm];exact Zw _ _ (by omega)
 ob:=ho
theorem y6h {cx:Ctx} {st st':St} {t:TypeId} {x y v:AVal} (h:Jf P cx st t x y=some (v,st')):Xd cx.floor st st'∧st'.env=st.env:=by
 unfold Jf at h;split at h
 ·split at h
  ·obtain ⟨_,h⟩:=Zr h;simp only [An,Ad] at h;obtain ⟨_,h1,_,rfl⟩:=h;obtain ⟨o1,o2,o3,o4⟩:=Xh h1;exact ⟨Xd.put st _ o2 (o3.trans rfl) fun x=>(o4 x).2,o1⟩
  ·cases h
 ·cases h
theorem x5h {cx:Ctx} {st st':St} {ts:List TypeId} {xs:List AVal} {v:AVal} (h:z3p P cx st ts xs=some (v,st')):Xd cx.floor st st'∧st'.env=st.env:=by
 unfold z3p at h;split at h
 ·split at h
  ·split at h
   ·cases h
   ·split at h
    ·split at h
     ·rename_i hm;split at h
      ·obtain ⟨hc,h⟩:=Zr h;simp only [Ac] at hc;simp only [An,Ad] at h;obtain ⟨_,h1,_,rfl⟩:=h;obtain ⟨o1,o2,o3,o4⟩:=Xh h1;exact ⟨(Xd.write st none (Ak hc.1.2) hm).trans (Xd.put (st.withMem _) _ o2 (o3.trans rfl) fun x=>(o4 x).2),o1⟩
      ·cases h
     ·cases h
    ·cases h
  ·cases h
 ·cases h
theorem u0h {floor:Nat} {st:St} {sz len:Nat} {x:AVal} {b:Option Nat} {get:Nat→List AVal} {o:Bool} (ht:z4x st.mem sz x=some (b,len,get,o)) (hf:v3v floor b=true):Xd floor st (st.withMem (x9c st.mem b)):=by
 cases b with
 | none=>exact Xd.refl _ _
 | some b=>
  have hm: ∃ab,Yf st.mem b=some ab:=by
   unfold z4x at ht;split at ht
   ·simp at ht
   ·split at ht
    ·rename_i blk hm;split at ht
     ·obtain ⟨_,ht⟩:=Zr ht;simp only [Ae,Ad] at ht;obtain ⟨rfl,_⟩:=ht;exact ⟨_,hm⟩
     ·cases ht
    ·cases ht
   ·split at ht
    ·rename_i blk hm;split at ht
     ·obtain ⟨_,ht⟩:=Zr ht;simp only [Ae,Ad] at ht;obtain ⟨rfl,_⟩:=ht;exact ⟨_,hm⟩
     ·cases ht
    ·cases ht
   ·cases ht
  obtain ⟨ab,hm⟩:=hm;exact Xd.write st none (Ak hf) hm
theorem x5g {cx:Ctx} {st st':St} {ts:List TypeId} {xs:List AVal} {v:AVal} (h:z0b P cx st ts xs=some (v,st')):Xd cx.floor st st'∧st'.env=st.env:=by
 unfold z0b at h;split at h
 ·split at h
  ·split at h
   ·split at h
    ·rename_i ht _;obtain ⟨hc,h⟩:=Zr h;simp only [Ac] at hc;simp only [An,Ad] at h;obtain ⟨_,h1,_,rfl⟩:=h;obtain ⟨o1,o2,o3,o4⟩:=Xh h1;exact ⟨(u0h ht hc.2).trans (Xd.put (st.withMem _) _ o2 (o3.trans rfl) fun x=>(o4 x).2),o1⟩
    ·cases h
   ·cases h
  ·cases h
 ·cases h
theorem x5i {cx:Ctx} {st st':St} {ts:List TypeId} {xs:List AVal} {v:AVal} (h:z1g P cx st ts xs=some (v,st')):Xd cx.floor st st'∧st'.env=st.env:=by
 unfold z1g at h;rcases Uh h with ⟨_,h⟩ | ⟨_,h⟩
 ·exact x5g h
 ·split at h
  ·exact x5h h
  ·exact w1h h
theorem v6b {floor:Nat} {st st':St} {ts:List TypeId} {xs:List AVal} {v:AVal} (h:w1e P floor st ts xs=some (v,st')):Xd floor st st'∧st'.env=st.env:=by
 unfold w1e at h;split at h
 ·split at h
  ·split at h
   ·split at h
    ·obtain ⟨_,h⟩:=Zr h;split at h
     ·simp only [Ae,Ad] at h;obtain ⟨_,rfl⟩:=h;exact ⟨Xd.refl _ _,rfl⟩
     ·obtain ⟨_,h⟩:=Zr h;simp only [Ae,Ad] at h;obtain ⟨_,rfl⟩:=h;exact ⟨Xd.refl _ _,rfl⟩
     ·dsimp only at h;split at h
      ·rename_i blk hm;obtain ⟨hc,h⟩:=Zr h;simp only [Ac] at hc;simp only [Ae,Ad] at h;obtain ⟨_,rfl⟩:=h;exact ⟨Xd.write st _ (Ak hc.1) hm,rfl⟩
      ·cases h
     ·cases h
    ·cases h
   ·cases h
  ·cases h
 ·cases h
theorem w8m {floor:Nat} {st st':St} {ts:List TypeId} {xs:List AVal} {v:AVal} (h:y6m P floor st ts xs=some (v,st')):Xd floor st st'∧st'.env=st.env:=by
 unfold y6m at h;split at h
 ·split at h
  ·split at h
   ·split at h
    ·simp only [Ae,Ad] at h;obtain ⟨_,rfl⟩:=h;exact ⟨Xd.refl _ _,rfl⟩
    ·rcases Uh h with ⟨_,h⟩ | ⟨_,h⟩
     ·simp only [Ae,Ad] at h;obtain ⟨_,rfl⟩:=h;exact ⟨Xd.refl _ _,rfl⟩
     ·obtain ⟨hc,h⟩:=Zr h;simp only [Ac] at hc;split at h
      ·rename_i blk hm;obtain ⟨_,h⟩:=Zr h;simp only [Ae,Ad] at h;obtain ⟨_,rfl⟩:=h;exact ⟨Xd.write st _ (Ak hc.2) hm,rfl⟩
      ·cases h
    ·cases h
   ·cases h
  ·cases h
 ·cases h
theorem z9b {S:Specs} {R:Runner} (hR:w3z R) {lift:Bool} {f:FuncId} {args:List AVal} {cx:Ctx} {st st':St} {v:AVal} (h:w8n P S R lift f args cx st=some (v,st')):
  (Xd cx.floor st st'∧(lift=true→ ∀b,b<st.next→grOf S f args≠some b→Yf st'.mem b=Yf st.mem b))∧st'.env=st.env:=by
 unfold w8n at h;split at h
 ·rcases Uh h with ⟨_,h⟩ | ⟨_,h⟩
  ·split at h
   ·obtain ⟨_,h⟩:=Zr h;simp only [An,Ad] at h;obtain ⟨st1,h1,_,rfl⟩:=h;obtain ⟨e1,e2,e3,e4⟩:=Xh h1;exact ⟨⟨Xd.same e2 e3 fun x=>(e4 x).2,fun _ b _ _=>by rw [e2]⟩,e1⟩
   ·cases h
  ·split at h;split at h
   ·obtain ⟨_,h⟩:=Zr h;simp only [An,Ad] at h;obtain ⟨st1,h1,_,rfl⟩:=h;obtain ⟨e1,e2,e3,e4⟩:=Xh h1;exact ⟨⟨Xd.same e2 e3 fun x=>(e4 x).2,fun _ b _ _=>by rw [e2]⟩,e1⟩
   ·cases h
 ·split at h
  ·rename_i v0 b blk o _;split at h
   ·rename_i ab hm;obtain ⟨hc,h⟩:=Zr h;simp only [Ac,B0] at hc;simp only [An,Ad] at h;obtain ⟨st1,h1,_,rfl⟩:=h;obtain ⟨e1,e2,e3,e4⟩:=Xh h1;exact ⟨⟨(Xd.write st (some blk) (Ak hc.2) hm).trans (Xd.same e2 e3 fun x=>(e4 x).2),fun hl=>by rw [hl] at hc;cases hc.1⟩,e1⟩
   ·cases h
  ·cases h
 ·rename_i ty0 F hF;split at h
  ·rename_i b sz n sz' r;split at h
   ·rename_i cells ty A hm;obtain ⟨hc,h⟩:=Zr h;simp only [Ac] at hc;split at h
    ·rename_i n' g o _;simp only [An,Ad] at h;obtain ⟨st1,h1,_,rfl⟩:=h;obtain ⟨env,mem,next,orc,ob⟩:=st;simp only at h1 hm ⊢;obtain ⟨e1,e2,e3,e4⟩:=Xh h1;simp only at e1 e2 e3 e4;have hle:=Ak hc.2.2.1;refine ⟨⟨⟨?_,fun hb k hk=> ?_,fun hf k hk=> ?_,fun x=>(e4 x).2⟩,fun _ k hk hn=> ?_⟩,e1⟩
     ·show next≤_
      rw [e3];omega
     ·have hb: ∀k,next≤k→Yf mem k=none:=hb
      rw [e3] at hk;have hbk:b≠k:=fun e=>by rw [e,hb k (by omega)] at hm;cases hm
      rw [e2,Zw _ _ (by omega),Zw _ _ (Ne.symm hbk)];exact hb k (by omega)
     ·have hf:cx.floor≤next:=hf
      rw [e2,Zw _ _ (by omega),Zw _ _ (by omega)]
     ·have hk:k<next:=hk
      have hbk:k≠b:=fun e=>hn (by
       unfold grOf;rw [hF,e])
      rw [e2,Zw _ _ (by omega),Zw _ _ hbk]
    ·cases h
   ·cases h
  ·cases h
 ·split at h
  ·split at h
   ·split at h
    ·rename_i st2 hr;split at h
     ·simp only [Ae,Ad] at h;obtain ⟨_,rfl⟩:=h;have q:=hR _ _ _ _ hr;refine ⟨?_,rfl⟩;cases lift with
      | false=>exact ⟨⟨q.nxt,q.bd,q.low,q.ob⟩,fun x=>by cases x⟩
      | true=>refine ⟨⟨q.nxt,q.bd,fun hf b hb=>q.low (Ao _) b (Ba hb hf),q.ob⟩,fun _ b hb _=>q.low (Ao _) b hb⟩
     ·cases h
    ·cases h
   ·cases h
  ·cases h
theorem y9u {cx:Ctx} {st st':St} {ts:List TypeId} {b sz off len:Nat} {x v:AVal} (h:y1m P cx st ts b sz off len x=some (v,st')):Xd cx.floor st st'∧st'.env=st.env:=by
 unfold y1m at h;split at h
 ·split at h
  ·split at h
   ·rename_i hm;split at h
    ·obtain ⟨hc,h⟩:=Zr h;simp only [Ac] at hc;simp only [An,Ad] at h;obtain ⟨_,h1,_,rfl⟩:=h;obtain ⟨o1,o2,o3,o4⟩:=Xh h1;exact ⟨(Xd.write st _ (Ak hc.1) hm).trans (Xd.same o2 o3 fun x=>(o4 x).2),o1⟩
    ·cases h
   ·cases h
  ·cases h
 ·cases h
theorem w8k {cx:Ctx} {st st':St} {ts:List TypeId} {xs:List AVal} {v:AVal} (h:y9v P cx st ts xs=some (v,st')):Xd cx.floor st st'∧st'.env=st.env:=by
 unfold y9v at h;split at h
 ·exact y9u h
 ·exact y9u h
 ·exact v6b h
theorem y6k {S:Specs} {R:Runner} (hR:w3z R) {lift:Bool} {op:Op} {cx:Ctx} {st st':St} {v:AVal} (h:Wb P S R lift op cx st=some (v,st')):Xd cx.floor st st'∧st'.env=st.env:=by
 unfold Wb at h;split at h
 ·split at h
  ·rename_i hl;obtain ⟨l1,l2,l3,l4⟩:=z3o hl;simp only [An,Ad] at h;obtain ⟨_,h1,_,rfl⟩:=h;obtain ⟨e1,e2,e3,e4⟩:=Xh h1;exact ⟨Xd.same (e2.trans l2) (e3.trans l3) fun x=>(l4 (e4 x).2).2,e1.trans l1⟩
  ·cases h
 ·simp only [An,Ad] at h;obtain ⟨_,_,_,rfl⟩:=h;exact ⟨Xd.new st _ _,rfl⟩
 ·obtain ⟨_,h⟩:=Zr h;simp only [Ae,Ad] at h;obtain ⟨_,rfl⟩:=h;exact ⟨Xd.new st _ _,rfl⟩
 ·exact y6o _ h
 ·split at h
  ·simp only [An,Ad] at h;obtain ⟨_,h,_,rfl⟩:=h;exact w0z h
  ·simp only [An,Ad] at h;obtain ⟨_,h,_,rfl⟩:=h;exact w8i h
 ·rcases Uh h with ⟨_,h⟩ | ⟨_,h⟩
  ·rcases Uh h with ⟨_,h⟩ | ⟨_,h⟩
   ·have q:=z6a (st:=st.dropO) cx.floor h;exact ⟨⟨q.1.nxt,q.1.bd,q.1.low,q.1.ob⟩,q.2⟩
   ·have q:=y6h (st:=st.dropO) h;exact ⟨⟨q.1.nxt,q.1.bd,q.1.low,q.1.ob⟩,q.2⟩
  ·exact z6a _ h
 ·exact x5i h
 ·exact w8k h
 ·exact w8m h
 ·split at h
  ·obtain ⟨⟨h1,_⟩,h2⟩:=z9b hR h;exact ⟨h1,h2⟩
  ·obtain ⟨⟨h1,_⟩,h2⟩:=z9b hR h;exact ⟨h1,h2⟩
  ·cases h
 ·cases h
def y9w (x:Nat) (st st':St):Prop:=Yf st'.mem x=Yf st.mem x
theorem Jo {x b:Nat} (st:St) (o:Option ABlk) (hn:b≠x):y9w x st (st.withMem (Xt st.mem b o)):=Zw _ _ fun e=>hn e.symm
theorem z4z {x:Nat} (st:St) (cs:List AVal) (ty:TypeId) (hx:x<st.next):y9w x st (y0i st cs ty):=Zw _ _ (A6 hx)
theorem w0y {x:Nat} {floor:Nat} {st st':St} {t:TypeId} {a v:AVal} (h:y6f P floor st t a v=some st') (hn: ∀off,a≠ .ptr x off):y9w x st st':=by
 unfold y6f at h;split at h
 ·rename_i b off _ _;obtain ⟨_,h⟩:=Zr h;split at h
  ·obtain ⟨_,h⟩:=Zr h;obtain rfl:=Af h;exact Jo st _ fun e=>hn off (by rw [e])
  ·cases h
 ·cases h
theorem x4y {x:Nat} {cx:Ctx} {st st':St} {t:TypeId} {a v:AVal} (h:z7b P cx st t a v=some st') (hn: ∀sz r fo,a≠ .epa x sz r fo):y9w x st st':=by
 unfold z7b at h;split at h
 ·rename_i b sz r fo _ _;obtain ⟨_,h⟩:=Zr h;split at h
  ·split at h
   ·split at h
    ·rename_i rw1 st1 eH;obtain ⟨_,s2,_,_⟩:=z6e eH;obtain ⟨_,o2,_,_⟩:=Xh h;unfold y9w;rw [o2,←s2];exact Jo st1 _ fun e=>hn sz r fo (by rw [e])
    ·cases h
   ·cases h
  ·cases h
 ·cases h
theorem y1u {x:Nat} {st st':St} {t:TypeId} {len:Nat} {ps:List (Nat×AVal)} {v:AVal} {un:Bool} (hx:x<st.next) (h:Jh P un st t len ps=some (v,st')):y9w x st st':=by
 unfold Jh at h;split at h
 ·split at h
  ·obtain ⟨_,h⟩:=Zr h;split at h
   ·simp only [Ae,Ad] at h;obtain ⟨_,rfl⟩:=h;exact z4z st _ _ hx
   ·cases h
  ·cases h
 ·cases h
theorem z4v {x:Nat} {st st':St} {t:TypeId} {l c v:AVal} (hx:x<st.next) (h:Vn P st t l c=some (v,st')):y9w x st st':=by
 unfold Vn at h;split at h
 ·split at h
  ·obtain ⟨_,h⟩:=Zr h;simp only [Ae,Ad] at h;obtain ⟨_,rfl⟩:=h;exact z4z st _ _ hx
  ·cases h
 ·cases h
theorem x5f {x floor:Nat} {st st':St} {ts:List TypeId} {xs:List AVal} {v:AVal} (hx:x<st.next) (h:z0n P floor st ts xs=some (v,st')) (hn: ∀off len cap r,xs≠ .sl x off len cap::r):y9w x st st':=by
 unfold z0n at h;split at h
 ·split at h
  ·split at h
   ·split at h
    ·obtain ⟨_,h⟩:=Zr h;split at h
     ·rcases Uh h with ⟨_,h⟩ | ⟨_,h⟩
      ·simp only [Ae,Ad] at h;obtain ⟨_,rfl⟩:=h;rfl
      ·obtain ⟨_,h⟩:=Zr h;simp only [Ae,Ad] at h;obtain ⟨_,rfl⟩:=h;exact z4z st _ _ hx
     ·have hb:=fun e=>hn _ _ _ _ (AY (fun b=>AVal.sl b _ _ _::_) e);split at h
      ·rename_i blk hm;split at h
       ·obtain ⟨_,h⟩:=Zr h;split at h
        ·rcases Uh h with ⟨_,h⟩ | ⟨_,h⟩
         ·obtain ⟨hc,h⟩:=Zr h;simp only [Ae,Ad] at h;obtain ⟨_,rfl⟩:=h;exact Jo st _ hb
         ·simp only [Ae,Ad] at h;obtain ⟨_,rfl⟩:=h;exact z4z st _ _ hx
        ·obtain ⟨hc,h⟩:=Zr h;rcases Uh h with ⟨_,h⟩ | ⟨_,h⟩
         ·simp only [Ae,Ad] at h;obtain ⟨_,rfl⟩:=h;exact Jo st _ hb
         ·obtain ⟨_,h⟩:=Zr h;simp only [Ae,Ad] at h;obtain ⟨_,rfl⟩:=h;exact (z4z (st.withMem (Xt st.mem _ none)) _ _ hx).trans (Jo st none hb)
       ·cases h
      ·cases h
     ·cases h
    ·cases h
   ·cases h
  ·cases h
 ·cases h
theorem y1r {x:Nat} {cx:Ctx} {st st':St} {t:TypeId} {l c v:AVal} (hx:x<st.next) (h:Jf P cx st t l c=some (v,st')):y9w x st st':=by
 unfold Jf at h;split at h
 ·split at h
  ·obtain ⟨_,h⟩:=Zr h;simp only [An,Ad] at h;obtain ⟨_,h1,_,rfl⟩:=h;obtain ⟨_,o2,_,_⟩:=Xh h1;unfold y9w;rw [o2];exact Zw _ _ (A6 hx)
  ·cases h
 ·cases h
theorem x2g {x:Nat} {cx:Ctx} {st st':St} {ts:List TypeId} {xs:List AVal} {v:AVal} (hx:x<st.next) (h:z3p P cx st ts xs=some (v,st')) (hn: ∀sz off len cap r,xs≠ .sla x sz off len cap::r):y9w x st st':=by
 unfold z3p at h;split at h
 ·have hb:=fun e=>hn _ _ _ _ _ (AY (fun b=>AVal.sla b _ _ _ _::_) e);split at h
  ·split at h
   ·cases h
   ·split at h
    ·split at h
     ·split at h
      ·obtain ⟨hc,h⟩:=Zr h;simp only [An,Ad] at h;obtain ⟨_,h1,_,rfl⟩:=h;obtain ⟨_,o2,_,_⟩:=Xh h1;unfold y9w;rw [o2];show Yf (Xt (Xt st.mem _ none) st.next _) x=_;rw [Zw _ _ (A6 hx)];exact Zw _ _ fun e=>hb e.symm
      ·cases h
     ·cases h
    ·cases h
  ·cases h
 ·cases h
theorem y6v {m:Mem} {sz len b:Nat} {x:AVal} {get:Nat→List AVal} {o:Bool} (ht:z4x m sz x=some (some b,len,get,o)):(∃off len cap,x=.sl b off len cap)∨ ∃sz off len cap,x=.sla b sz off len cap:=by
 unfold z4x at ht;split at ht
 ·simp at ht
 ·split at ht
  ·split at ht
   ·obtain ⟨_,ht⟩:=Zr ht;simp only [Ae,Ad] at ht;obtain ⟨rfl,_⟩:=ht;exact .inl ⟨_,_,_,rfl⟩
   ·cases ht
  ·cases ht
 ·split at ht
  ·split at ht
   ·obtain ⟨_,ht⟩:=Zr ht;simp only [Ae,Ad] at ht;obtain ⟨rfl,_⟩:=ht;exact .inr ⟨_,_,_,_,rfl⟩
   ·cases ht
  ·cases ht
 ·cases ht
theorem x2f {x:Nat} {cx:Ctx} {st st':St} {ts:List TypeId} {xs:List AVal} {v:AVal} (hx:x<st.next) (h:z0b P cx st ts xs=some (v,st')) (hn: ∀off len cap r,xs≠ .sl x off len cap::r) (hn2: ∀sz off len cap r,xs≠ .sla x sz off len cap::r):y9w x st st':=by
 unfold z0b at h;split at h
 ·split at h
  ·split at h
   ·split at h
    ·rename_i b len get o1 n g o2 ht _;obtain ⟨hc,h⟩:=Zr h;simp only [An,Ad] at h;obtain ⟨_,h1,_,rfl⟩:=h;obtain ⟨_,o2,_,_⟩:=Xh h1;unfold y9w;rw [o2];show Yf (Xt (x9c st.mem b) st.next _) x=_;rw [Zw _ _ (A6 hx)];cases b with
     | none=>rfl
     | some b=>
      refine Zw _ _ fun e=> ?_;subst e;rcases y6v ht with ⟨_,_,_,rfl⟩ | ⟨_,_,_,_,rfl⟩
      ·exact hn _ _ _ _ rfl
      ·exact hn2 _ _ _ _ _ rfl
    ·cases h
   ·cases h
  ·cases h
 ·cases h
theorem x2h {x:Nat} {cx:Ctx} {st st':St} {ts:List TypeId} {xs:List AVal} {v:AVal} (hx:x<st.next) (h:z1g P cx st ts xs=some (v,st')) (hn: ∀off len cap r,xs≠ .sl x off len cap::r) (hn2: ∀sz off len cap r,xs≠ .sla x sz off len cap::r):y9w x st st':=by
 unfold z1g at h;rcases Uh h with ⟨_,h⟩ | ⟨_,h⟩
 ·exact x2f hx h hn hn2
 ·split at h
  ·exact x2g hx h hn2
  ·exact x5f hx h hn
theorem w8j {x floor:Nat} {st st':St} {ts:List TypeId} {xs:List AVal} {v:AVal} (h:w1e P floor st ts xs=some (v,st')) (hn: ∀off len cap r,xs≠ .sl x off len cap::r):y9w x st st':=by
 unfold w1e at h;split at h
 ·split at h
  ·split at h
   ·split at h
    ·obtain ⟨_,h⟩:=Zr h;split at h
     ·simp only [Ae,Ad] at h;obtain ⟨_,rfl⟩:=h;rfl
     ·obtain ⟨_,h⟩:=Zr h;simp only [Ae,Ad] at h;obtain ⟨_,rfl⟩:=h;rfl
     ·have hb:=fun e=>hn _ _ _ _ (AY (fun b=>AVal.sl b _ _ _::_) e);dsimp only at h;split at h
      ·obtain ⟨hc,h⟩:=Zr h;simp only [Ae,Ad] at h;obtain ⟨_,rfl⟩:=h;exact Jo st _ hb
      ·cases h
     ·cases h
    ·cases h
   ·cases h
  ·cases h
 ·cases h
theorem y6l {x:Nat} {cx:Ctx} {st st':St} {ts:List TypeId} {b sz off len:Nat} {y v:AVal} (h:y1m P cx st ts b sz off len y=some (v,st')) (hn:b≠x):y9w x st st':=by
 unfold y1m at h;split at h
 ·split at h
  ·split at h
   ·split at h
    ·obtain ⟨_,h⟩:=Zr h;simp only [An,Ad] at h;obtain ⟨_,h1,_,rfl⟩:=h;obtain ⟨_,o2,_,_⟩:=Xh h1;show Yf _ x=_;rw [o2];exact Jo st _ hn
    ·cases h
   ·cases h
  ·cases h
 ·cases h
theorem w1d {x:Nat} {cx:Ctx} {st st':St} {ts:List TypeId} {xs:List AVal} {v:AVal} (h:y9v P cx st ts xs=some (v,st')) (hn: ∀off len cap r,xs≠ .sl x off len cap::r) (hn2: ∀sz off len cap r,xs≠ .sla x sz off len cap::r) (hn3: ∀sz off len r,xs≠ .slv x sz off len::r):y9w x st st':=by
 unfold y9v at h;split at h
 ·exact y6l h fun e=>hn2 _ _ _ _ _ (by rw [e])
 ·exact y6l h fun e=>hn3 _ _ _ _ (by rw [e])
 ·exact w8j h hn
theorem w1f {x floor:Nat} {st st':St} {ts:List TypeId} {xs:List AVal} {v:AVal} (h:y6m P floor st ts xs=some (v,st')) (hn: ∀off len cap r,xs≠ .sl x off len cap::r):y9w x st st':=by
 unfold y6m at h;split at h
 ·split at h
  ·split at h
   ·split at h
    ·simp only [Ae,Ad] at h;obtain ⟨_,rfl⟩:=h;rfl
    ·have hb:=fun e=>hn _ _ _ _ (AY (fun b=>AVal.sl b _ _ _::_) e);rcases Uh h with ⟨_,h⟩ | ⟨_,h⟩
     ·simp only [Ae,Ad] at h;obtain ⟨_,rfl⟩:=h;rfl
     ·obtain ⟨hc,h⟩:=Zr h;split at h
      ·obtain ⟨_,h⟩:=Zr h;simp only [Ae,Ad] at h;obtain ⟨_,rfl⟩:=h;exact Jo st _ hb
      ·cases h
    ·cases h
   ·cases h
  ·cases h
 ·cases h
theorem x5c {S:Specs} {R:Runner} {lift:Bool} {op:Op} {cx:Ctx} {st st':St} {v:AVal} {x:Nat} (hk:Xw op=.chain) (hx:x<st.next) (hn:x2j op st.eval≠some x) (h:Wb P S R lift op cx st=some (v,st')):y9w x st st':=by
 cases op with
 | store t a y=>
  simp only [Wb] at h;split at h
  ·rename_i b sz r fo hb;simp only [An,Ad] at h;obtain ⟨_,h,_,rfl⟩:=h;exact x4y h fun sz r fo e=>hn (by simp only [x2j,hb];cases e;rfl)
  ·simp only [An,Ad] at h;obtain ⟨_,h,_,rfl⟩:=h;exact w0y h fun off e=>hn (by simp only [x2j,e])
 | box t y=>unfold Wb at h;simp only at h;obtain ⟨_,h⟩:=Zr h;simp only [Ae,Ad] at h;obtain ⟨_,rfl⟩:=h;exact z4z st _ _ hx
 | buildSlice t n ps=>exact y1u hx h
 | makeSlice t l c=>
  unfold Wb at h;simp only at h;rcases Uh h with ⟨_,h⟩ | ⟨_,h⟩
  ·rcases Uh h with ⟨_,h⟩ | ⟨_,h⟩
   ·exact (z4v (st:=st.dropO) hx h)
   ·exact (y1r (st:=st.dropO) hx h)
  ·exact z4v hx h
 | call c=>
  obtain ⟨callee,args,argTypes⟩:=c;cases callee with
  | builtin b=>
   cases b <;> first
    | (simp [Xw] at hk;done)
    | exact x2h hx h (fun off len cap r e=>hn (by simp only [x2j,e])) (fun sz off len cap r e=>hn (by simp only [x2j,e]))
    | exact w1d h (fun off len cap r e=>hn (by simp only [x2j,e])) (fun sz off len cap r e=>hn (by simp only [x2j,e])) (fun sz off len r e=>hn (by simp only [x2j,e]))
    | exact w1f h fun off len cap r e=>hn (by simp only [x2j,e])
  | value f=>simp [Xw] at hk
  | invoke r m=>simp [Xw] at hk
 | _=>simp [Xw] at hk
theorem Kv : ∀(d:Nat) (a:AVal) (u:Value),pf d a=true→Yy ρ a u→Yy ρ.bare a u
 | 0,_,_,h,_=>by simp [pf] at h
 | d+1,a,u,h,hr=>by
  cases hr with
  | undef=>simp [pf] at h
  | bool=>exact .bool _
  | int=>exact .int _ _
  | str=>exact .str _
  | agg cs vs hl hh=>simp only [pf,Au] at h;exact .agg cs vs hl fun i h1 h2=>Kv d _ _ (h _ (AR h1)) (hh i h1 h2)
  | tup cs vs hl hh=>simp only [pf,Au] at h;exact .tup cs vs hl fun i h1 h2=>Kv d _ _ (h _ (AR h1)) (hh i h1 h2)
  | ptr=>simp [pf] at h
  | nilp=>exact .nilp
  | sl=>simp [pf] at h
  | sla=>simp [pf] at h
  | slan=>simp [pf] at h
  | slv=>simp [pf] at h
  | slve=>simp [pf] at h
  | slvn=>simp [pf] at h
  | epa=>simp [pf] at h
  | nils=>exact .nils
  | fn f cs vs hl hh=>obtain rfl:cs=[]:=List.isEmpty_iff.1 h;exact .fn f [] vs hl fun i h1=>absurd h1 (AO _)
  | nilf=>exact .nilf
  | fnb=>simp [pf] at h
  | yld=>simp [pf] at h
  | ifc=>simp [pf] at h
  | nili=>exact .nili
  | dat len get blk base sz cap val dC hsz hv hh=>exact .dat len get blk base sz cap val dC hsz hv hh
  | datn get=>exact .datn get
  | datz get a c=>exact .datz get a c
  | dptr cs blk base val hv hh=>exact .dptr cs blk base val hv hh
def ValOk (P:Program) (f:FuncId) (F:List AVal→Option (AVal×Bool)):Prop:=
 ∀args v,F args=some (v,true)→ ∀(H:Old) (vals:Array Value) (w:World),Wr (Yy (z4g H)) args vals.toList→(∀k o,H k=some o→w.heap[k]? =some o)→
  Calls P f vals w fun e w'=> ∃H' u,(∀k o,H k=some o→H' k=some o)∧(∀k o,H' k=some o→w'.heap[k]? =some o)∧(∀k,k<w.heap.size→H' k=H k)∧e=.returned u∧Yy (z4g H') v u∧RowKit.Below w.heap.size w w'
def x5m (P:Program) (f:FuncId) (F:List AVal→Mem→Option (AVal×Nat×ABlk×Bool)):Prop:=
 ∀args mem v b blk,F args mem=some (v,b,blk,true)→(Yf mem b).isSome =true→ ∀(ρ:Rho) (next floor:Nat) (vals:Array Value) (w:World),floor≤b→Wr (Yy ρ) args vals.toList→Rel ρ mem next w→
  Calls P f vals w fun e w'=> ∃u,e=.returned u∧Yy ρ v u∧Rel ρ (Xt mem b (some blk)) next w'∧Ev ρ ρ floor mem next (Xt mem b (some blk)) next w w'
def u4k (H:Old) (l:Option Loc):Rho:=⟨fun b=>if b=0 then l else none,H,fun _=>none⟩
def mem1 (ty:TypeId) (sz n:Nat) (get:Nat→List AVal):Mem:=Xt .leaf 0 (some ⟨Yx n get,ty,some ⟨sz,n,.flat get⟩⟩)
def GroOk (P:Program) (f:FuncId) (ty:TypeId) (F:Nat→(Nat→List AVal)→List AVal→Option (Nat×(Nat→List AVal)×Bool)):Prop:=
 ∀ (sz n:Nat) (get:Nat→List AVal) (r:List AVal) (n':Nat) (g:Nat→List AVal),F n get r=some (n',g,true)→plR sz n get=true→plR sz n' g=true→1≤sz→ ∀(H:Old) (l:Option Loc) (vals:Array Value) (w:World),
  Wr (Yy (u4k H l)) (.sla 0 sz 0 n (.un sz)::r) vals.toList→Rel (u4k H l) (mem1 ty sz n get) 1 w→(∀k o,w.heap[k]? =some o→(∃l0,l=some l0∧l0.blk=k)∨H k=some o)→
  Calls P f vals w fun e w'=> ∃ρ' u m' nx b ty',e=.returned u∧Yy ρ' (.sla b sz 0 n' (.un sz)) u∧Yf m' b=some ⟨Yx n' g,ty',some ⟨sz,n',.flat g⟩⟩∧Rel ρ' m' nx w'∧
   (∀k o,H k=some o→ρ'.fz k=some o)∧w.heap.size≤w'.heap.size∧w'.os=w.os∧w'.tape=w.tape∧w'.output=w.output
def SpecOk (P:Program) (f:FuncId):Spec→Prop
 | .val F=>ValOk P f F
 | .eff F=>x5m P f F
 | .gro ty F=>GroOk P f ty F
def Zu (P:Program) (S:Specs):Prop:=
 ∀f F,S f=some F→(∃fn,P.funcs[f]? =some fn∧fn.body.isSome=true)∧SpecOk P f F
def z9c (P:Program):Prop:= ∀(f:FuncId) (fn:Func),P.funcs[f]? =some fn→fn.body.isSome=true→(fn.name == "runtime.NumGoroutine")=false
def ROk (P:Program) (R:Runner):Prop:=
 ∀ cx todo st st',cx.floor≤st.next→R cx todo st=some st'→st'.ob=true→ ∀(ρ:Rho) (a:Act) (w:World) (b:Frame) (cs:List Frame),a.defers=[]→Wp ρ st.env cx.n a.tmps→Rel ρ st.mem st.next w→
  ∃ρ' a' todo' w',Steps P (lone (b.at a todo) cs w) (lone {b.at a' todo' with mode:=.returning} cs w')∧a'.defers=[]∧Wp ρ' st'.env cx.n a'.tmps∧Rel ρ' st'.mem st'.next w'∧
   Ev ρ ρ' cx.floor st.mem st.next st'.mem st'.next w w'
theorem y5r : ∀(args:List AVal) (i:Nat) (t:T AVal) (k:Nat),T.get .undef (y0d args i t) k=if i≤k∧k<i+args.length then args.getD (k - i) .undef else T.get .undef t k
 | [],i,t,k=>by rw [Aw (by intro h;simp at h;omega)];rfl
 | a::r,i,t,k=>by
  simp only [y0d];rw [y5r r (i+1) _ k,T.get_set];by_cases h1:k=i
  ·subst h1;rw [Aw (by omega),AB rfl,AB (by simp)];simp
  ·by_cases h2:i+1≤k∧k<i+1+r.length
   ·rw [AB h2,AB (by simp;omega)];have:k - i=(k - (i+1))+1:=(by omega);rw [this];simp
   ·rw [Aw h2,Aw h1,Aw (by simp;omega)]
def x3f (tmps:Array Value):ResultVar→Sem Value
 | .tmp t=>pure (tmps.getD t undef)
 | .cell a t=>do loadVar t (←asAddr (tmps.getD a undef))
theorem w6c (fn:Func) (tmps:Array Value):results fn tmps=(do
  let vs←fn.results.mapM (x3f tmps)
  pure (if h:vs.size=1 then vs[0] else .tuple vs)):=by
 unfold results;have:(fun r:ResultVar=>(match r with | .tmp t=>pure (tmps.getD t undef) | .cell a t=>do loadVar t (←asAddr (tmps.getD a undef)):Sem Value))=x3f tmps:=by
  funext r
  cases r <;> rfl
 rw [←this];rfl
theorem x2a {st:St} {w:World} {tmps:Array Value} {n:Nat} (dA:Wp ρ st.env n tmps) (cS:Rel ρ st.mem st.next w) {r:ResultVar} {v:AVal} (h:x2b P st r=some v):
  ∃u,Yy ρ v u∧(x3f tmps r).run P w=.ok u w:=by
 have get: ∀t,Yy ρ (st.tmp t) (tmps.getD t undef):=fun t=>dA.get t;cases r with
 | tmp t=>simp only [x2b,Ae] at h;subst h;exact ⟨_,get t,rfl⟩
 | cell a t=>
  simp only [x2b] at h;obtain ⟨z,hz,hr⟩:=y6i cS h (get a);refine ⟨z,hz,?_⟩;have ha:=get a;unfold x3f;simp only;generalize tmps.getD a undef=u at ha hr ⊢;unfold w1a at h;split at h
  ·rename_i e;rw [e] at ha;cases ha
   simpa [Instr.loadAt,Instr.sureAddr,asAddr] using hr
  ·rename_i e;rw [e] at ha;cases ha
   simpa [Instr.loadAt,Instr.sureAddr,asAddr] using hr
  ·cases h
theorem z5z {st:St} {w:World} {tmps:Array Value} {n:Nat} (dA:Wp ρ st.env n tmps) (cS:Rel ρ st.mem st.next w): ∀{rs:List ResultVar} {vs:List AVal},Kk P st rs=some vs→
  ∃us,Wr (Yy ρ) vs us∧(rs.mapM (x3f tmps)).run P w=.ok us w
 | [],vs,h=>by simp only [Kk,Ae] at h;subst h;exact ⟨[],.nil,by simp⟩
 | r::rs,vs,h=>by
  unfold Kk at h;split at h
  ·rename_i v vs' h1 h2;obtain rfl:=Af h;obtain ⟨u,hu,hr⟩:=x2a dA cS h1;obtain ⟨us,hus,hrs⟩:=z5z dA cS h2;refine ⟨u::us,.cons hu hus,?_⟩;rw [List.mapM_cons,Sem.run_bind,hr];simp only [Result.andThen_ok,Sem.run_bind,hrs,Sem.run_pure]
  ·cases h
theorem z2w {fn:Func} {st:St} {w:World} {tmps:Array Value} {n:Nat} (dA:Wp ρ st.env n tmps) (cS:Rel ρ st.mem st.next w) {vs:List AVal} (h:Kk P st fn.results.toList=some vs):
  ∃u,Yy ρ (Ku vs) u∧(results fn tmps).run P w=.ok u w:=by
 obtain ⟨us,hus,hr⟩:=z5z dA cS h;refine ⟨if h:us.toArray.size=1 then us.toArray[0] else .tuple us.toArray,?_,?_⟩
 ·cases hus with
  | nil=>exact .tup [] _ rfl fun i h1 _=>by simp at h1
  | cons h1 hs=>cases hs with
   | nil=>simpa [Ku] using h1
   | cons h2 hs=>have dY:=Wr.cons h1 (Wr.cons h2 hs);have hl:=dY.length;simp only [Ku];rw [dif_neg (by simp)];exact .tup _ _ (by simpa using hl) fun i h1 h2=>by simpa using dY.get i h1 (by simpa using h2)
 ·rw [w6c,Sem.run_bind,Array.mapM_eq_mapM_toList,Sem.run_map,hr];rfl
theorem y5q {args:List AVal} {vals:Array Value} (h:Wr (Yy ρ) args vals.toList) (ntmps:Nat):
  Wp ρ (y0d args 0 .leaf) (Nat.max ntmps args.length) (vals++Array.replicate (ntmps - vals.size) undef):=by
 have hl:args.length=vals.size:=by simpa using h.length
 have hmax:Nat.max ntmps args.length=vals.size+(ntmps - vals.size):=by have:Nat.max ntmps args.length=max ntmps args.length:=rfl;rw [this];omega
 refine ⟨by rw [hmax];simp,fun i=> ?_,fun i hi=> ?_⟩
 ·rw [y5r];by_cases hi:i<args.length
  ·rw [AB (by omega)];have h2:i<vals.toList.length:=by rw [←h.length];exact hi
   have:=h.get i hi h2;have e1:args.getD (i - 0) .undef =args[i]:=by simp [hi]
   have e2:(vals++Array.replicate (ntmps - vals.size) undef).getD i undef=vals.toList[i]:=by have h3:i<vals.size:=(by simpa using h2);simp [Array.getElem?_append,h3]
   rw [e1,e2];exact this
  ·rw [Aw (by omega)];exact .undef _
 ·have hle:args.length≤Nat.max ntmps args.length:=Nat.le_max_right _ _;rw [y5r,Aw (by omega)];rfl
theorem z2h {f:FuncId} {fn:Func} (hN:z9c P) (hf:P.funcs[f]? =some fn) (hb:fn.body.isSome=true) (args:Array Value) (w:World):(callFunc f args).run P w=.ok (.enter f args) w:=by
 have h1: ¬fn.name= "runtime.NumGoroutine" :=by simpa using hN f fn hf hb
 have h2: ¬fn.body=none:=by intro e;rw [e] at hb;cases hb
 simp [callFunc,hf,h1,h2]
theorem x5w {mem:Mem} {next:Nat} {w:World} (h:Rel ρ mem next w) {a a':AVal} {o:Bool} (hv:u7p mem a=(a',o)) (ho:o=true) {u:Value} (hr:Yy ρ a u) (hp:pf 3 a'=true):Yy (z4g fun k=>w.heap[k]?) a' u:=by
 subst ho;have hle:ρ.bare.le (z4g fun k=>w.heap[k]?):=⟨fun _ _ e=>(by cases e),fun k o e=>h.old k o e,fun _ _ e=>(by cases e)⟩
 unfold u7p at hv;split at hv
 ·rename_i b sz off len cap;split at hv
  ·rename_i blk hm;split at hv
   ·rename_i A hA;simp only [Ad,Ac,As] at hv;obtain ⟨rfl,h1,h2,h3⟩:=hv;obtain rfl:=Aj h1;have h3:= @AC _ (Classical.propDecidable _) h3;cases hr with
    | slan=>exact .datn _
    | sla _ _ _ _ _ l c hρ dC cT=>
     obtain ⟨dT,fA,dJ⟩:=(h.blk b l blk hρ hm).arr A hA;obtain ⟨cur,el,hh,_⟩:=(h.blk b l blk hρ hm).cells;refine .dat len _ l.blk (l.base+off*A.sz) A.sz c (fun i j=>(w.cell? ⟨l.blk,l.base+(off+i)*A.sz+j,none⟩).getD undef) cT (fun i hi=>dJ _ (by omega)) (fun i j hi hj=> ?_) (fun i j hi hj=> ?_)
     ·obtain ⟨v,e1,e2⟩:=(h.rowAt hρ hm hA (r:=off+i) (by omega)) j hj;simp only [e1,Option.getD_some];exact (Kv 6 _ _ (Au.1 (h3 (off+i)) _ (AR hj)) e2).mono hle
     ·obtain ⟨v,e1,e2⟩:=(h.rowAt hρ hm hA (r:=off+i) (by omega)) j (by rw [dJ _ (by omega)];exact hj);simp only [e1,Option.getD_some];refine ⟨cur,el,(0,0),hh,?_⟩;simp only [World.cell?,hh] at e1;rw [←e1]
      congr 1
      rw [AQ];omega
   ·simp only [Ad] at hv;obtain ⟨rfl,_⟩:=hv;simp [pf] at hp
  ·simp only [Ad] at hv;obtain ⟨rfl,_⟩:=hv;simp [pf] at hp
 ·simp only [Ad] at hv;obtain ⟨rfl,_⟩:=hv;exact (Kv 3 _ _ hp hr).mono hle
theorem x5x {mem:Mem} {next:Nat} {w:World} (h:Rel ρ mem next w) {az:List AVal} {us:List Value} (hr:Wr (Yy ρ) az us): ∀{az':List AVal} {o:Bool},w9e mem az=(az',o)→o=true→az'.all (pf 3)=true→Wr (Yy (z4g fun k=>w.heap[k]?)) az' us:=by
 induction hr with
 | nil=>intro az' o hv _ _;simp only [w9e,Ad] at hv;obtain ⟨rfl,_⟩:=hv;exact .nil
 | @cons a b l m h1 _ ih=>intro az' o hv ho hp;unfold w9e at hv;split at hv;rename_i a1 o1 as1 q1 e1 e2;simp only [Ad] at hv;obtain ⟨rfl,rfl⟩:=hv;simp only [Ac] at ho;simp only [List.all_cons,Ac] at hp;exact .cons (x5w h e1 ho.1 h1 hp.1) (ih e2 ho.2 hp.2)
theorem w5c {σ:Rho} {v:AVal} {u:Value} (hs:scal v=true) (h:Yy σ v u):Yy ρ v u:=by
 cases h with
 | bool=>exact .bool _
 | int=>exact .int _ _
 | str=>exact .str _
 | tup cs vs hl hh=>
  simp only [scal,Au] at hs;refine .tup cs vs hl fun i h1 h2=> ?_;have k1:=hs _ (AR h1);have k2:=hh i h1 h2;generalize cs[i]=a at k1 k2;generalize vs[i]=b at k2;cases k2 with
  | undef=>exact .undef _
  | bool=>exact .bool _
  | int=>exact .int _ _
  | str=>exact .str _
  | _=>simp at k1
 | _=>simp [scal] at hs
theorem v9h {sz n:Nat} {get:Nat→List AVal} (h:plR sz n get=true): ∀i,i<n→(get i).length =sz∧(get i).all pl=true:= @AC _ (Classical.propDecidable _) h
theorem v0s {sz n:Nat} {get:Nat→List AVal} (h:plR sz n get=true): ∀v∈Yx n get,pl v=true:=fun v hv=>by obtain ⟨i,hi,hv⟩:=AN.1 hv;exact Au.1 (v9h h i (A2.1 hi)).2 v hv
theorem pl_any {v:AVal} {u:Value} {ρ':Rho} (h:pl v=true) (hr:Yy ρ v u):Yy ρ' v u:=by
 cases hr <;> first | exact .bool _ | exact .int _ _ | (cases h;done)
theorem Ux.pl {w:World} {ab:ABlk} {l:Loc} (h:Ux ρ w ab l) (hp: ∀v∈ab.cells,pl v=true) (ρ':Rho):Ux ρ' w ab l:=by obtain ⟨h1,h2,h3,cs,el,h4,h5,h6⟩:=h;refine ⟨h1,h2,h3,cs,el,h4,h5,fun i hi=> ?_⟩;obtain ⟨v,q1,q2⟩:=h6 i hi;exact ⟨v,q1,pl_any (hp _ (AR hi)) q2⟩
theorem v3p {f:FuncId} {F:Nat→(Nat→List AVal)→List AVal→Option (Nat×(Nat→List AVal)×Bool)} {ty:TypeId} (hF:GroOk P f ty F) {floor next:Nat} {mem:Mem} {b sz n:Nat} {r:List AVal} {cells:List AVal} {A:Arr} (hm:Yf mem b=some ⟨cells,ty,some A⟩)
  (hA:A.sz=sz∧A.n=n) (hr:r.all (pf 3)=true) (hfl:floor≤b) (hsz:1≤sz) {n':Nat} {g:Nat→List AVal} (hv:F n A.get r=some (n',g,true)) (hp:plR sz n A.get=true) (hp':plR sz n' g=true)
  {vals:Array Value} (cW:Wr (Yy ρ) (.sla b sz 0 n (.un sz)::r) vals.toList) {w:World} (cS:Rel ρ mem next w):
  Calls P f vals w fun e w'=> ∃ρ' u,e=.returned u∧Yy ρ' (.sla next sz 0 n' (.un sz)) u∧Rel ρ' (Xt (Xt mem b none) next (some ⟨Yx n' g,ty,some ⟨sz,n',.flat g⟩⟩)) (next+1) w'∧
   Ev ρ ρ' floor mem next (Xt (Xt mem b none) next (some ⟨Yx n' g,ty,some ⟨sz,n',.flat g⟩⟩)) (next+1) w w':=by
 obtain ⟨rfl,rfl⟩:=hA;have hbn:b<next:=by
  rcases Bi b next with h | h
  ·exact h
  ·rw [cS.bd b h] at hm;cases hm
 let H:Old:=fun k=>if∃l,ρ b=some l∧l.blk=k then none else w.heap[k]?
 have hH: ∀k,(¬ ∃l,ρ b=some l∧l.blk=k)→H k=w.heap[k]? :=fun k hk=>Aw hk;have hHs: ∀k o,H k=some o→w.heap[k]? =some o∧ ¬ ∃l,ρ b=some l∧l.blk=k:=fun k o e=>by
  by_cases hk: ∃l,ρ b=some l∧l.blk=k
  ·have:H k=none:=AB hk;rw [this] at e;cases e
  ·rw [hH k hk] at e;exact ⟨e,hk⟩
 have hfz: ∀k o,ρ.fz k=some o→H k=some o:=fun k o e=>by
  rw [hH k fun ⟨l,h1,h2⟩=>by
   have:=cS.sep b l h1 (by rw [hm];rfl);rw [h2,e] at this;cases this]
  exact cS.old k o e
 have hbare:ρ.bare.le (u4k H (ρ b)):=⟨fun _ _ e=>(by cases e),hfz,fun _ _ e=>(by cases e)⟩
 have key: ∀(n0:Nat) (u:Value),Yy ρ (.sla b A.sz 0 n0 (.un A.sz)) u→Yy (u4k H (ρ b)) (.sla 0 A.sz 0 n0 (.un A.sz)) u:=fun n0 u h1=>by
  cases h1 with
  | sla _ _ _ _ _ l c h hc cT=>exact .sla 0 _ 0 _ _ l c (by show (if (0:Nat)=0 then ρ b else none)=_;rw [AB rfl];exact h) hc cT
  | slan _ _ _ _=>exact .slan _ _ _ _
 have hargs1:Wr (Yy (u4k H (ρ b))) (.sla 0 A.sz 0 A.n (.un A.sz)::r) vals.toList:=by
  generalize vals.toList=us at cW;cases cW with
  | cons h1 h2=>
   refine .cons ?_ ?_
   ·exact key _ _ h1
   ·exact Wr.of h2.length fun i g1 g2=>(Kv 3 _ _ (Au.1 hr _ (AR g1)) (h2.get i g1 g2)).mono hbare
 have hget0: ∀l,u4k H (ρ b) 0=some l↔ρ b=some l:=fun l=>Iff.rfl;have dS: ∀c l,u4k H (ρ b) c=some l→c=0∧ρ b=some l:=fun c l e=>by
  have e:(if c=0 then ρ b else none)=some l:=e;by_cases hc:c=0
  ·rw [AB hc] at e;exact ⟨hc,e⟩
  ·rw [Aw hc] at e;cases e
 have hm1:Yf (mem1 ty A.sz A.n A.get) 0=some ⟨Yx A.n A.get,ty,some ⟨A.sz,A.n,.flat A.get⟩⟩:=Yw _ _ _;have dV:Rel (u4k H (ρ b)) (mem1 ty A.sz A.n A.get) 1 w:=by
  refine ⟨fun c l e=>by rw [(dS c l e).1];omega,fun c c' l l' e e' _ _ _=>by rw [(dS c l e).1,(dS c' l' e').1],fun c l ab e hc=> ?_,fun k o e=>(hHs k o e).1,fun c l e _=> ?_,fun c l e=>cS.real b l (dS c l e).2,fun c hc=> ?_,fun j l e=>by cases e⟩
  ·obtain ⟨rfl,e2⟩:=dS c l e;rw [hm1] at hc;obtain rfl:=Af hc;have q:=cS.blk b l _ e2 hm;obtain ⟨q1,q2,q3,cs,el,q4,q5,q6⟩:=q;obtain ⟨a1,a2,a3⟩:=q3 A rfl;simp only at a1;subst a1;have q':Ux ρ w ⟨Yx A.n A.get,ty,some ⟨A.sz,A.n,.flat A.get⟩⟩ l:=⟨q1,q2,fun B e=>by
    obtain rfl:=Af e;exact ⟨rfl,a2,a3⟩,cs,el,q4,q5,q6⟩
   exact q'.pl (v0s hp) _
  ·obtain ⟨_,e2⟩:=dS c l e;exact AB ⟨l,e2,rfl⟩
  ·show Yf (Xt .leaf 0 _) c=none;rw [Zw _ _ (by omega)];rfl
 have dY: ∀k o,w.heap[k]? =some o→(∃l0,ρ b=some l0∧l0.blk=k)∨H k=some o:=fun k o e=>by
  by_cases hk: ∃l',ρ b=some l'∧l'.blk=k
  ·exact .inl hk
  ·exact .inr ((hH k hk).trans e)
 refine (hF A.sz A.n A.get r n' g hv hp hp' hsz H (ρ b) vals w hargs1 dV dY).mono fun e w' ⟨ρ1,u,m',nx,b1,ty',he,hu,hmb,hr1,hfz1,fI,hos,htape,hout⟩=> ?_;have hgone: ∀k,(¬ ∃l,ρ b=some l∧l.blk=k)→ ∀o,w.heap[k]? =some o→w'.heap[k]? =some o∧ρ1.fz k=some o:=fun k hk o e=>by have h2:=hfz1 k o ((hH k hk).trans e);exact ⟨hr1.old k o h2,h2⟩
 let ρ':Rho:=⟨fun c=>if c=next then ρ1 b1 else ρ c,ρ.fz,ρ.lp⟩
 have dE: ∀c l,ρ' c=some l→(c=next∧ρ1 b1=some l)∨(c≠next∧ρ c=some l):=fun c l e=>by
  have e:(if c=next then ρ1 b1 else ρ c)=some l:=e;by_cases hc:c=next
  ·rw [AB hc] at e;exact .inl ⟨hc,e⟩
  ·rw [Aw hc] at e;exact .inr ⟨hc,e⟩
 have hnew:ρ' next=ρ1 b1:=AB rfl
 have holdc: ∀c,c<next→ρ' c=ρ c:=fun c hc=>Aw (by omega)
 have hle:ρ.le ρ':=⟨fun c l e=>by rw [holdc c (cS.dom c l e)];exact e,fun _ _ e=>e,fun _ _ e=>e⟩
 have hm': ∀c,c≠next→Yf (Xt (Xt mem b none) next (some ⟨Yx n' g,ty,some ⟨A.sz,n',.flat g⟩⟩)) c=if c=b then none else Yf mem c:=fun c hc=>by
  rw [Zw _ _ hc];by_cases hcb:c=b
  ·rw [AB hcb,hcb,Yw]
  ·rw [Aw hcb,Zw _ _ hcb]
 have hmn:Yf (Xt (Xt mem b none) next (some ⟨Yx n' g,ty,some ⟨A.sz,n',.flat g⟩⟩)) next=some ⟨Yx n' g,ty,some ⟨A.sz,n',.flat g⟩⟩:=Yw _ _ _
 have hother: ∀c l,ρ c=some l→(Yf mem c).isSome =true→c≠b→ ¬ ∃l',ρ b=some l'∧l'.blk=l.blk:=fun c l e hs hcb ⟨l',e',hb⟩=>hcb (cS.inj c b l l' e e' hb.symm hs (by rw [hm];rfl));have fC: ∀c l,ρ c=some l→ ∃o,w.heap[l.blk]? =some o:=fun c l e=>⟨_,Bk (cS.real c l e)⟩
 have hsepn: ∀l,ρ1 b1=some l→ρ1.fz l.blk=none:=fun l e=>hr1.sep b1 l e (by rw [hmb];rfl);have dK:Yy ρ' (.sla next A.sz 0 n' (.un A.sz)) u:=by
  cases hu with
  | sla _ _ _ _ _ l c h hc cT=>exact .sla next _ 0 _ _ l c (hnew.trans h) hc cT
  | slan _ _ _ _=>exact .slan _ _ _ _
 refine ⟨ρ',u,he,dK,?_,?_⟩
 ·refine ⟨fun c l e=> ?_,fun c c' l l' e e' hbl hs hs'=> ?_,fun c l ab e hc=> ?_,fun k o e=> ?_,fun c l e hs=> ?_,fun c l e=> ?_,fun c hc=> ?_,fun j l e=>BO (cS.ldom j l e)⟩
  ·rcases dE c l e with ⟨rfl,_⟩ | ⟨_,e⟩
   ·omega
   ·have:=cS.dom c l e;omega
  ·have clash: ∀c l l',c≠next→ρ c=some l→ρ1 b1=some l'→l.blk=l'.blk→(Yf (Xt (Xt mem b none) next (some ⟨Yx n' g,ty,some ⟨A.sz,n',.flat g⟩⟩)) c).isSome =true→False:=fun c l l' hc e e' hbl hs=>by
    rw [hm' c hc] at hs;by_cases hcb:c=b
    ·rw [AB hcb] at hs;cases hs
    ·rw [Aw hcb] at hs;obtain ⟨o,ho⟩:=fC c l e;have:=(hgone l.blk (hother c l e hs hcb) o ho).2;rw [hbl,hsepn l' e'] at this;cases this
   rcases dE c l e with ⟨h1,h2⟩ | ⟨h1,h2⟩ <;> rcases dE c' l' e' with ⟨h1',h2'⟩ | ⟨h1',h2'⟩
   ·rw [h1,h1']
   ·exact (clash c' l' l h1' h2' h2 hbl.symm hs').elim
   ·exact (clash c l l' h1 h2 h2' hbl hs).elim
   ·rw [hm' c h1] at hs;rw [hm' c' h1'] at hs';by_cases hcb:c=b
    ·rw [AB hcb] at hs;cases hs
    ·by_cases hcb':c'=b
     ·rw [AB hcb'] at hs';cases hs'
     ·rw [Aw hcb] at hs;rw [Aw hcb'] at hs';exact cS.inj c c' l l' h2 h2' hbl hs hs'
  ·rcases dE c l e with ⟨h1,h2⟩ | ⟨h1,h2⟩
   ·subst h1;rw [hmn] at hc;obtain rfl:=Af hc;have q:=(hr1.blk b1 l _ h2 hmb).pl (v0s hp') ρ';exact ⟨q.n,q.tot,q.arr,q.cells⟩
   ·rw [hm' c h1] at hc;by_cases hcb:c=b
    ·rw [AB hcb] at hc;cases hc
    ·rw [Aw hcb] at hc;obtain ⟨o,ho⟩:=fC c l h2;refine (cS.blk c l ab h2 hc).world hle ?_;rw [(hgone l.blk (hother c l h2 (by rw [hc];rfl) hcb) o ho).1,ho]
  ·have h1:=hfz k o e;obtain ⟨h2,h3⟩:=hHs k o h1;exact (hgone k h3 o h2).1
  ·rcases dE c l e with ⟨h1,h2⟩ | ⟨h1,h2⟩
   ·cases hq:ρ.fz l.blk with
    | none=>rfl
    | some o=>exfalso;have h1:=hfz _ _ hq;have h3:=hfz1 l.blk o h1;rw [hsepn l h2] at h3;cases h3
   ·rw [hm' c h1] at hs;by_cases hcb:c=b
    ·rw [AB hcb] at hs;cases hs
    ·rw [Aw hcb] at hs;exact cS.sep c l h2 hs
  ·rcases dE c l e with ⟨h1,h2⟩ | ⟨h1,h2⟩
   ·exact hr1.real b1 l h2
   ·exact Ba (cS.real c l h2) fI
  ·rw [hm' c (by omega),Aw (by omega)];exact cS.bd c (by omega)
 ·refine ⟨hle,fun c hc=>holdc c hc,by omega,fun c hc hn cs ty2 hq=> ?_,fun k o hk hn=> ?_,fun c l hc e=> ?_,fI,hos,htape,hout,fun k _=>rfl⟩
  ·rw [hm' c (by omega)];by_cases hcb:c=b
   ·rw [hcb,hm] at hq;cases hq
   ·rw [Aw hcb];exact hq
  ·exact (hgone k (fun ⟨l,h1,h2⟩=>hn b l h1 hfl h2) o hk).1
  ·rcases dE c l e with ⟨h1,h2⟩ | ⟨h1,h2⟩
   ·rcases Bi l.blk w.heap.size with h | h
    ·rcases dY l.blk _ (Bk h) with ⟨l0,h3,h4⟩ | h3
     ·exact .inr ⟨b,l0,h3,hfl,h4⟩
     ·have h4:=hfz1 _ _ h3;rw [hsepn l h2] at h4;cases h4
    ·exact .inl h
   ·have:=cS.dom c l h2;omega
theorem y6n {S:Specs} {R:Runner} (hS:Zu P S) (hR:ROk P R) {lift:Bool} {f:FuncId} {args:List AVal} {cx:Ctx} {st st':St} {v:AVal} (hcx:cx.floor≤st.next) (h:w8n P S R lift f args cx st=some (v,st')) (hob:st'.ob=true)
  {vals:Array Value} (cW:Wr (Yy ρ) args vals.toList) {w:World} (cS:Rel ρ st.mem st.next w):
  (∃fn,P.funcs[f]? =some fn∧fn.body.isSome=true)∧Calls P f vals w fun e w'=> ∃ρ' u,e=.returned u∧x2l ρ cx.floor st st' v w ρ' u w':=by
 unfold w8n at h;split at h
 ·rename_i F hF;rcases Uh h with ⟨hca,h⟩ | ⟨_,h⟩
  ·split at h
   ·rename_i v' b hFa;obtain ⟨hc2,h⟩:=Zr h;have hc1:=Au.1 hca;simp only [An,Ad] at h;obtain ⟨st1,h1,rfl,rfl⟩:=h;obtain ⟨_,e2,e3,e4⟩:=Xh h1;obtain ⟨rfl,_⟩:=e4 hob;obtain ⟨hfn,dL⟩:=hS f _ hF;refine ⟨hfn,?_⟩;have hargs0:Wr (Yy ρ.bare) args vals.toList:=Wr.of cW.length fun i g1 g2=>Kv 3 _ _ (hc1 _ (AR g1)) (cW.get i g1 g2);refine (dL args v' hFa ρ.fz vals w hargs0 cS.old).mono fun e w' ⟨H',u,hle,hold,dH,he,hv,hb⟩=>⟨⟨ρ.f,H',ρ.lp⟩,u,he,Yy.mono (ρ:=z4g H') (ρ':=⟨ρ.f,H',ρ.lp⟩) ⟨fun _ _ e=>(by cases e),fun _ _ e=>e,fun _ _ e=>(by cases e)⟩ hv,?_,?_⟩
    ·rw [e2,e3];have hle':ρ.le ⟨ρ.f,H',ρ.lp⟩:=⟨fun _ _ e=>e,hle,fun _ _ e=>e⟩
     exact ⟨cS.dom,cS.inj,fun b l ab q1 q2=>(cS.blk b l ab q1 q2).world hle' (hb.block _ (cS.real b l q1)),hold,fun b l q hs=>(dH _ (cS.real b l q)).trans (cS.sep b l q hs),fun b l q=>Ba (cS.real b l q) hb.size,cS.bd,cS.ldom⟩
    ·rw [e2,e3];exact ⟨⟨fun _ _ e=>e,hle,fun _ _ e=>e⟩,fun _ _=>rfl,Ao _,fun _ _ _ _ _ h=>h,fun k o hk _=>by rw [hb.block k (AM.1 hk).1];exact hk,
      fun b l hb' hl=>by have:=cS.dom b l hl;omega,hb.size,hb.os,hb.tape,hb.output,dH⟩
   ·cases h
  ·split at h;rename_i args' o hview;split at h
   ·rename_i v' b hFa;obtain ⟨hc,h⟩:=Zr h;simp only [Ac] at hc;simp only [An,Ad] at h;obtain ⟨st1,h1,rfl,rfl⟩:=h;obtain ⟨_,e2,e3,e4⟩:=Xh h1;obtain ⟨hob1,_⟩:=e4 hob;simp only [Ac] at hob1;obtain ⟨ho,rfl⟩:=hob1;obtain ⟨hfn,dL⟩:=hS f _ hF;refine ⟨hfn,?_⟩;have hargs0:=x5x cS cW hview ho hc.1;refine (dL args' v' hFa (fun k=>w.heap[k]?) vals w hargs0 fun _ _ e=>e).mono fun e w' ⟨H',u,hle,hold,dH,he,hv,hb⟩=>⟨ρ,u,he,w5c hc.2 hv,?_,?_⟩
    ·rw [e2,e3];exact ⟨cS.dom,cS.inj,fun b l ab q1 q2=>(cS.blk b l ab q1 q2).world (Rho.le_refl _) (hb.block _ (cS.real b l q1)),fun k o q=>by rw [hb.block k (AM.1 (cS.old k o q)).1];exact cS.old k o q,cS.sep,fun b l q=>Ba (cS.real b l q) hb.size,cS.bd,cS.ldom⟩
    ·rw [e2,e3];exact ⟨Rho.le_refl _,fun _ _=>rfl,Ao _,fun _ _ _ _ _ h=>h,fun k o hk _=>by rw [hb.block k (AM.1 hk).1];exact hk,
      fun b l hb' hl=>by have:=cS.dom b l hl;omega,hb.size,hb.os,hb.tape,hb.output,fun _ _=>rfl⟩
   ·cases h
 ·rename_i F hF;split at h
  ·rename_i v0 b blk o hFa;split at h
   ·rename_i ab hm;obtain ⟨hc,h⟩:=Zr h;simp only [Ac] at hc;simp only [An,Ad] at h;obtain ⟨st1,h1,rfl,rfl⟩:=h;obtain ⟨_,e2,e3,e4⟩:=Xh h1;obtain ⟨rfl,_⟩:=e4 hob;obtain ⟨hfn,dL⟩:=hS f _ hF;refine ⟨hfn,?_⟩;refine (dL args st.mem v0 b blk hFa (by rw [hm];rfl) ρ st.next cx.floor vals w (Ak hc.2) cW cS).mono fun e w' ⟨u,he,hv,hr,hev⟩=>⟨ρ,u,he,hv,?_,?_⟩
    ·rw [e2,e3];exact hr
    ·rw [e2,e3];exact hev
   ·cases h
  ·cases h
 ·rename_i ty0 F hF;split at h
  ·rename_i b sz n sz' r;split at h
   ·rename_i cells ty A hm;obtain ⟨hc,h⟩:=Zr h;simp only [Ac] at hc;obtain ⟨⟨c0,c1,c2⟩,c4,c5,c6⟩:=hc;have c0:=Aj c0;split at h
    ·rename_i n' g o hFa;simp only [An,Ad] at h;obtain ⟨st1,h1,rfl,rfl⟩:=h;obtain ⟨env,mem,next,orc,ob⟩:=st;simp only at h1 hm hcx cS ⊢;obtain ⟨_,e2,e3,e4⟩:=Xh h1;obtain ⟨hob1,_⟩:=e4 hob;simp only [Ac] at hob1;obtain ⟨rfl,c3,hp,hp'⟩:=hob1;obtain ⟨hfn,dL⟩:=hS f _ hF;rw [←c0] at dL;obtain rfl:=Aj c1;refine ⟨hfn,?_⟩;refine (v3p dL hm ⟨Aj c2,Aj c3⟩ c4 (Ak c5) (Ak c6) hFa hp hp' cW cS).mono fun e w' ⟨ρ',u,he,hv,hr,hev⟩=>⟨ρ',u,he,hv,?_,?_⟩
     ·rw [e2,e3];exact hr
     ·rw [e2,e3];exact hev
    ·cases h
   ·cases h
  ·cases h
 ·split at h
  ·rename_i fn hf;split at h
   ·rename_i body hb;split at h
    ·rename_i st2 hr;split at h
     ·rename_i vs hvs;simp only [Ae,Ad] at h;obtain ⟨rfl,rfl⟩:=h;refine ⟨⟨fn,hf,by rw [hb];rfl⟩,?_⟩;intro cs
      let b:Frame:={(default:Frame) with fn:=f,kind:=.normal}
      have fD:Frame.enter P f vals .normal =b.at {tmps:=vals++Array.replicate (fn.ntmps - vals.size) undef,defers:=[]} [.code body]:=by simp [Frame.enter,Frame.at,hf,hb,b]
      obtain ⟨ρ',a',todo',w',dN,hd,dA,dR,hev⟩:=hR _ _ _ _ (by
       cases lift with
       | false=>exact hcx
       | true=>exact Ao _) hr hob ρ {tmps:=vals++Array.replicate (fn.ntmps - vals.size) undef,defers:=[]} w b cs rfl (y5q cW fn.ntmps) cS
      obtain ⟨u,hu,fH⟩:=z2w dA dR hvs;rw [←fD] at dN;refine ⟨.returned u,w',_,⟨ρ',u,rfl,hu,dR,?_⟩,dN,rfl,rfl,hd,rfl,fn,hf,fH⟩;refine hev.lower ?_;cases lift with
      | false=>exact Ao _
      | true=>exact hcx
     ·cases h
    ·cases h
   ·cases h
  ·cases h
theorem x2d {S:Specs} {R:Runner} (hN:z9c P) (hS:Zu P S) (hR:ROk P R) {lift:Bool} {o:Oper} {cx:Ctx} {st st':St} {v:AVal} (hcx:cx.floor≤st.next)
  (h:Wb P S R lift o.op cx st=some (v,st')) (hob:st'.ob=true) {ev:Operand→AVal} (hev: ∀x,x∈o.op.operands→ev x=st.eval x) {a:Act} (hr:Qc ρ ev a.eval o.op) {w:World} (cS:Rel ρ st.mem st.next w):
  Does P o a w (x2l ρ cx.floor st st' v w):=by
 obtain ⟨dst,op,type,pos,after,guard⟩:=o;simp only at h hr hev
 replace hr:Qc ρ st.eval a.eval op:=fun x hx=>by rw [←hev x hx];exact hr x hx
 clear hev;unfold Wb at h;split at h
 ·rename_i t x;split at h
  ·rename_i v' b st0 hv;obtain ⟨l1,l2,l3,l4⟩:=z3o hv;simp only [An,Ad] at h;obtain ⟨st1,h1,rfl,rfl⟩:=h;obtain ⟨e1,e2,e3,e4⟩:=Xh h1;obtain ⟨rfl,hob0⟩:=e4 hob;obtain ⟨z,hz,cU⟩:=y1k cS (l4 hob0).1 (hr x (by simp [Op.operands]));exact .inl ⟨ρ,z,w,by simp [execOp,cU],hz,by rw [e2,e3,l2,l3];exact cS,by rw [e2,e3,l2,l3];exact Ev.refl _ _ _ _ _ cS.dom⟩
  ·cases h
 ·rename_i t;simp only [An,Ad] at h;obtain ⟨z,hz,rfl,rfl⟩:=h;obtain ⟨_,zv,_,_,hzr,hzv⟩:=Wv (ρ:=ρ) hz;refine .inl ⟨_,.pointer (some ⟨w.heap.size,0,none⟩),_,?_,z5e cS cx.floor z t zv.cells t (by rw [hzr.1];exact Ao _) hzr.2 _ _ fun ρ' hρ'=>.ptr _ 0 _ hρ'⟩;simp [execOp,Instr.alloc,hzv,newVar,newRow]
 ·rename_i t x;obtain ⟨hbx,h⟩:=Zr h;simp only [Ae,Ad] at h;obtain ⟨rfl,rfl⟩:=h;have hc:=(hr x (by simp [Op.operands])).cells hbx;refine .inl ⟨_,.pointer (some ⟨w.heap.size,0,none⟩),_,?_,z5e cS cx.floor _ t (a.eval x).cells t (by rw [hc.1];exact Ao _) hc.2 _ _ fun ρ' hρ'=>.ptr _ 0 _ hρ'⟩;simp [execOp,Instr.box,newVar,newRow]
 ·rename_i t len parts;obtain ⟨ρ',u,w',cU,hp,_,_⟩:=y0m cS cx.floor h (z2x parts.toList fun p hp=>hr p.2 (by simp only [Op.operands,List.mem_toArray,AX];exact ⟨p,hp,rfl⟩));refine .inl ⟨ρ',u,w',?_,hp⟩;have:(parts.map fun (i,x)=>(i,a.eval x))=(parts.toList.map fun p=>(p.1,a.eval p.2)).toArray :=by apply Array.ext';simp
  simp [execOp,this,cU]
 ·rename_i t x y;split at h
  ·rename_i b sz r fo hb;simp only [An,Ad] at h;obtain ⟨st1,h,rfl,rfl⟩:=h;have hx:=hr x (by simp [Op.operands]);rw [hb] at hx;obtain ⟨w',cU,hp⟩:=x1z cS h hob hx (hr y (by simp [Op.operands]));exact .inr (.inl ⟨ρ,w',by simp [execOp,cU],hp⟩)
  ·simp only [An,Ad] at h;obtain ⟨st1,h,rfl,rfl⟩:=h;obtain ⟨w',cU,hp,_,_⟩:=x4x cS h (hr x (by simp [Op.operands])) (hr y (by simp [Op.operands]));exact .inr (.inl ⟨ρ,w',by simp [execOp,cU],hp⟩)
 ·rename_i t l c;rcases Uh h with ⟨_,h⟩ | ⟨_,h⟩
  ·rcases Uh h with ⟨_,h⟩ | ⟨_,h⟩
   ·obtain ⟨ρ',u,w',cU,hp,_,_⟩:=Qm (st:=st.dropO) cS cx.floor h (hr l (by simp [Op.operands])) (hr c (by simp [Op.operands]));exact .inl ⟨ρ',u,w',by simp [execOp,cU],hp.val,hp.rel,hp.ev⟩
   ·obtain ⟨ρ',u,w',cU,hp⟩:=y0j (st:=st.dropO) cS h hob (hr l (by simp [Op.operands])) (hr c (by simp [Op.operands]));exact .inl ⟨ρ',u,w',by simp [execOp,cU],hp.val,hp.rel,hp.ev⟩
  ·obtain ⟨ρ',u,w',cU,hp,_,_⟩:=Qm cS cx.floor h (hr l (by simp [Op.operands])) (hr c (by simp [Op.operands]));exact .inl ⟨ρ',u,w',by simp [execOp,cU],hp⟩
 ·rename_i args argTypes;have cW:Wr (Yy ρ) (args.toList.map st.eval) (args.map a.eval).toList :=by rw [B5];exact Wr.maps _ _ _ fun x hx=>hr x (by simp [Op.operands,Call.operands];exact A7.1 hx)
  unfold z1g at h;rcases Uh h with ⟨_,h⟩ | ⟨_,h⟩
  ·obtain ⟨ρ',u,w',cU,hp⟩:=y7e (type:=type) cS h hob cW;exact .inl ⟨ρ',u,w',by simp [execOp,resolve,invoke,builtin,cU],hp⟩
  split at h
  ·rename_i hxs;obtain ⟨ρ',u,w',cU,hp,_⟩:=z6b (type:=type) cS h hob (hxs ▸ cW);exact .inl ⟨ρ',u,w',by simp [execOp,resolve,invoke,builtin,cU],hp⟩
  ·obtain ⟨ρ',u,w',cU,hp,_,_⟩:=z0a (type:=type) cS cx.floor h cW;exact .inl ⟨ρ',u,w',by simp [execOp,resolve,invoke,builtin,cU],hp⟩
 ·rename_i args argTypes;have cW:Wr (Yy ρ) (args.toList.map st.eval) (args.map a.eval).toList :=by rw [B5];exact Wr.maps _ _ _ fun x hx=>hr x (by simp [Op.operands,Call.operands];exact A7.1 hx)
  unfold y9v at h;split at h
  ·rename_i b sz off len cap x xs hxs;obtain ⟨ρ',u,w',cU,hp⟩:=y1l (type:=type) (d:=.sla b sz off len cap) cS h hob (hxs ▸ cW) fun u hu=>by
    cases hu with
    | sla _ _ _ _ _ l c hρ _ cT=>exact .inl ⟨l,c,hρ,cT,rfl⟩
    | slan=>exact .inr ⟨rfl,none,0,rfl⟩
   exact .inl ⟨ρ',u,w',by simp [execOp,resolve,invoke,builtin,cU],hp⟩
  ·rename_i b sz off len x xs hxs;obtain ⟨ρ',u,w',cU,hp⟩:=y1l (type:=type) (d:=.slv b sz off len) cS h hob (hxs ▸ cW) fun u hu=>by
    cases hu with
    | slv _ _ _ _ l c hρ cT=>exact .inl ⟨l,c,hρ,cT,rfl⟩
    | slve _ _ _ blk base c=>exact .inr ⟨rfl,_,_,rfl⟩
    | slvn=>exact .inr ⟨rfl,none,0,rfl⟩
   exact .inl ⟨ρ',u,w',by simp [execOp,resolve,invoke,builtin,cU],hp⟩
  ·obtain ⟨ρ',u,w',cU,hp,_,_⟩:=w1c (type:=type) cS cx.floor h cW;exact .inl ⟨ρ',u,w',by simp [execOp,resolve,invoke,builtin,cU],hp⟩
 ·rename_i args argTypes;have cW:Wr (Yy ρ) (args.toList.map st.eval) (args.map a.eval).toList :=by rw [B5];exact Wr.maps _ _ _ fun x hx=>hr x (by simp [Op.operands,Call.operands];exact A7.1 hx)
  obtain ⟨ρ',u,w',cU,hp,_,_⟩:=x5d (type:=type) cS cx.floor h cW;exact .inl ⟨ρ',u,w',by simp [execOp,resolve,invoke,builtin,cU],hp⟩
 ·rename_i f args argTypes;split at h
  ·rename_i g caps hg;have hf:=hr f (by simp [Op.operands,Call.operands]);rw [hg] at hf;generalize hw:a.eval f=u at hf;cases hf with
   | fn _ _ cvs hl hh=>
    have cW:Wr (Yy ρ) (args.toList.map st.eval++caps) (args.map a.eval++cvs).toList :=by rw [Ci,B5];exact Wr.append (Wr.maps _ _ _ fun x hx=>hr x (by simp [Op.operands,Call.operands];exact .inr (A7.1 hx))) (Wr.of (by simpa using hl) fun i h1 h2=>by simpa using hh i h1 (by simpa using h2))
    obtain ⟨⟨fn,hfn,hb⟩,hc⟩:=y6n hS hR hcx h hob cW cS;refine .inr (.inr ⟨g,args.map a.eval++cvs,?_,hc⟩);have:=z2h hN hfn hb (args.map a.eval++cvs) w;simp [execOp,resolve,Deferred.ofValue,hw,invoke,this]
  ·rename_i g first hg
   have hf:=hr f (by simp [Op.operands,Call.operands]);rw [hg] at hf;generalize hw:a.eval f=u at hf;cases hf with
   | fnb _ _ cvs hl hh=>
    have cW:Wr (Yy ρ) (first++args.toList.map st.eval) (cvs++args.map a.eval).toList :=by rw [Ci,B5];exact Wr.append (Wr.of (by simpa using hl) fun i h1 h2=>by simpa using hh i h1 (by simpa using h2)) (Wr.maps _ _ _ fun x hx=>hr x (by simp [Op.operands,Call.operands];exact .inr (A7.1 hx)))
    obtain ⟨⟨fn,hfn,hb⟩,hc⟩:=y6n hS hR hcx h hob cW cS;refine .inr (.inr ⟨g,cvs++args.map a.eval,?_,hc⟩);have:=z2h hN hfn hb (cvs++args.map a.eval) w;simp [execOp,resolve,Deferred.ofValue,hw,invoke,this]
  ·cases h
 ·cases h
end
section
variable {P:Program} {ρ:Rho}
theorem Wp.congr {env env':T AVal} {n:Nat} {tmps:Array Value} (h:Wp ρ env n tmps) (he: ∀t,T.get .undef env' t=T.get .undef env t):Wp ρ env' n tmps:=
 ⟨h.size,fun i=>by rw [he];exact h.get i,fun i hi=>by rw [he];exact h.out i hi⟩
theorem Wp.eval {st:St} {n:Nat} {a:Act} (h:Wp ρ st.env n a.tmps) (x:Operand):Yy ρ (st.eval x) (a.eval x):=by
 cases x with
 | tmp t=>exact h.get t
 | const v=>exact v2b v
 | global g=>exact .undef _
 | func f=>exact .fn f [] #[] rfl fun i h1 _=>by simp at h1
theorem Wp.put {env env':T AVal} {n:Nat} {a:Act} (h:Wp ρ env n a.tmps) {dst:Option Tmp} {v:AVal} {u:Value} (hv:Yy ρ v u)
  (hp:(dst=none∧env'=env)∨ ∃d,dst=some d∧d<n∧env'=T.set .undef env d v):Wp ρ env' n (a.put dst u).tmps :=by
 rcases hp with ⟨rfl,rfl⟩ | ⟨d,rfl,hd,rfl⟩
 ·exact h
 ·have hsz:=h.size;refine ⟨by simp [Act.put,hsz],fun i=> ?_,fun i hi=> ?_⟩
  ·rw [T.get_set];by_cases hi:i=d
   ·subst hi;rw [AB rfl];have:i<a.tmps.size:=by rw [hsz];exact hd
    simpa [Act.put,this] using hv
   ·rw [Aw hi];have:=h.get i
    simpa [Act.put,Array.getElem?_setIfInBounds_ne (Ne.symm hi)] using this
  ·rw [T.get_set,Aw (Nat.ne_of_gt (Ba hd hi))];exact h.out i hi
theorem Act.put_defers' (a:Act) (dst:Option Tmp) (v:Value):(a.put dst v).defers =a.defers:=by cases dst <;> rfl
theorem w8h {ops:Array Oper} {o:Oper} {cx:Ctx} {st st':St} {e:Bool} (h:z8z ops o cx st=some (e,st')):st'.mem=st.mem∧st'.next=st.next∧(st'.ob=true→st.ob=true∧ ∀t,st'.tmp t=st.tmp t):=by
 unfold z8z at h;split at h
 ·simp only [Ae,Ad] at h;obtain ⟨_,rfl⟩:=h;exact ⟨rfl,rfl,fun h=>⟨h,fun _=>rfl⟩⟩
 ·split at h
  ·cases h
  ·rename_i d hd;split at h
   ·rename_i b hb;split at h;rename_i e1 st1 ht;split at h
    ·rename_i st2 hp;simp only [Ae,Ad] at h;obtain ⟨_,rfl⟩:=h;obtain ⟨t1,t2,t3,t4⟩:=y3w ht;obtain ⟨p1,p2,p3,p4⟩:=Wd hp;refine ⟨p1.trans t2,p2.trans t3,fun ho=> ?_⟩;rw [p3] at ho;obtain ⟨rfl,ho⟩:=t4 ho;refine ⟨ho,fun t=> ?_⟩;rcases p4 with ⟨e,_⟩ | ⟨d',e,_,he⟩
     ·cases e
     ·obtain rfl:=Af e;show T.get .undef st2.env t=T.get .undef st.env t;rw [he,t1,T.get_set];split
      ·rename_i h;subst h;exact hb.symm
      ·rfl
    ·cases h
   ·simp only [Ae,Ad] at h;obtain ⟨_,rfl⟩:=h;exact ⟨rfl,rfl,fun h=>⟨h,fun _=>rfl⟩⟩
   ·cases h
def Ug (ops:Array Oper) (o:Oper):Option Tmp:=o.guard.bind fun g=>(ops[g.1]?).bind (·.dst)
theorem w0x {ops:Array Oper} {o:Oper} {cx:Ctx} {st st':St} {e:Bool} (h:z8z ops o cx st=some (e,st')) (ho:st'.ob=true) {tmps:Array Value} (hsz:tmps.size=cx.n)
  (hr: ∀d,Ug ops o=some d→Yy ρ (st.tmp d) (tmps.getD d undef)):Region.wanted o (yielded ops tmps)=e:=by
 unfold z8z at h;unfold Region.wanted;split at h
 ·rename_i hg;simp only [Ae,Ad] at h;obtain ⟨rfl,_⟩:=h;rw [hg]
 ·rename_i j want hg;rw [hg];simp only;split at h
  ·cases h
  ·rename_i d hd;have hrd:=hr d (by simp [Ug,hg,hd]);split at h
   ·rename_i b hb;split at h;rename_i e1 st1 ht;split at h
    ·rename_i st2 hp;simp only [Ae,Ad] at h;obtain ⟨rfl,rfl⟩:=h;obtain ⟨_,_,_,t4⟩:=y3w ht;obtain ⟨_,_,p3,p4⟩:=Wd hp;rw [p3] at ho;obtain ⟨rfl,_⟩:=t4 ho;rcases p4 with ⟨e,_⟩ | ⟨d',e,hlt,_⟩
     ·cases e
     ·obtain rfl:=Af e;rw [hb] at hrd;have hlt':d<tmps.size:=by rw [hsz];exact hlt
      have dE:tmps.getD d undef=tmps[d]:=(by simp [hlt']);rw [dE] at hrd;have:yielded ops tmps j=some e1:=by unfold yielded;rw [hd];simp only [Option.bind_some,Bk hlt'];generalize tmps[d]=u at hrd;cases hrd;rfl
      rw [this];cases e1 <;> cases want <;> rfl
    ·cases h
   ·rename_i hb;simp only [Ae,Ad] at h;obtain ⟨rfl,rfl⟩:=h;rw [hb] at hrd;have:yielded ops tmps j=none:=by
     unfold yielded;rw [hd];simp only [Option.bind_some];by_cases hlt:d<tmps.size
     ·have dE:tmps.getD d undef=tmps[d]:=(by simp [hlt]);rw [dE] at hrd;rw [Bk hlt];generalize tmps[d]=u at hrd;cases hrd;rfl
     ·rw [Array.getElem?_eq_none (Nat.le_of_not_lt hlt)]
    rw [this];rfl
   ·cases h
theorem z8w {cx:Ctx} {t:Nat} {kd:IntKind} {n:Int} {st st':St} (ht:st.tmp t=.int kd n) (h:st.conc cx t kd n=some st'):st'.mem=st.mem∧st'.next=st.next∧(st'.ob=true→st.ob=true∧ ∀t,st'.tmp t=st.tmp t):=by
 obtain ⟨env,mem,next,orc,ob⟩:=st;cases orc with
 | nil=>obtain rfl:=Af h;exact ⟨rfl,rfl,fun h=>⟨h,fun _=>rfl⟩⟩
 | cons o r=>
  unfold St.conc at h;obtain ⟨_,h⟩:=Zr h;obtain rfl:=Af h;refine ⟨rfl,rfl,fun ho=> ?_⟩;simp only [Ac,As] at ho;refine ⟨ho.2,fun k=> ?_⟩;show T.get .undef (T.set .undef env t _) k=T.get .undef env k;rw [T.get_set];split
  ·rename_i e;subst e;rw [←ho.1];exact ht.symm
  ·rfl
theorem w8l {o:Oper} {cx:Ctx} {st st':St} (h:u1v o cx st=some st'):st'.mem=st.mem∧st'.next=st.next∧(st'.ob=true→st.ob=true∧ ∀t,st'.tmp t=st.tmp t):=by
 have same:some st=some st'→st'.mem=st.mem∧st'.next=st.next∧(st'.ob=true→st.ob=true∧ ∀t,st'.tmp t=st.tmp t):=fun e=>by obtain rfl:=Af e;exact ⟨rfl,rfl,fun h=>⟨h,fun _=>rfl⟩⟩
 unfold u1v at h;split at h
 ·split at h
  ·split at h
   ·rename_i ht;exact z8w ht h
   ·exact same h
  ·split at h
   ·rename_i ht;exact z8w ht h
   ·exact same h
  ·split at h
   ·rename_i ht;exact z8w ht h
   ·exact same h
  ·exact same h
 ·split at h
  ·split at h
   ·rename_i ht;exact z8w ht h
   ·exact same h
  ·exact same h
 ·exact same h
theorem Kj {ops:Array Oper} {o:Oper} {cx:Ctx} {st st':St} {e:Bool} (h:Qp ops o cx st=some (e,st')): ∃st1,z8z ops o cx st=some (e,st1)∧st'.mem=st1.mem∧st'.next=st1.next∧(st'.ob=true→st1.ob=true∧ ∀t,st'.tmp t=st1.tmp t)∧(Xw o.op=.alloc ∨e=false→st'=st1):=by
 unfold Qp at h;split at h
 ·rename_i st1 h1;split at h
  ·rename_i st2 h2;simp only [Ae,Ad] at h;obtain ⟨rfl,rfl⟩:=h;obtain ⟨c1,c2,c3⟩:=w8l h2;refine ⟨st1,h1,c1,c2,c3,fun hk=> ?_⟩;rcases hk with hk | hk
   ·unfold u1v at h2;split at h2
    ·rename_i ho;rw [ho] at hk;cases hk
    ·rename_i ho;rw [ho] at hk;cases hk
    ·exact (Af h2).symm
   ·cases hk
  ·cases h
 ·exact ⟨st',h,rfl,rfl,fun h=>⟨h,fun _=>rfl⟩,fun _=>rfl⟩
theorem Wx {ops:Array Oper} {o:Oper} {cx:Ctx} {st st':St} {e:Bool} (h:Qp ops o cx st=some (e,st')):st'.mem=st.mem∧st'.next=st.next∧(st'.ob=true→st.ob=true∧ ∀t,st'.tmp t=st.tmp t):=by obtain ⟨st1,h1,c1,c2,c3,_⟩:=Kj h;obtain ⟨w1,w2,w3⟩:=w8h h1;exact ⟨c1.trans w1,c2.trans w2,fun ho=>⟨(w3 (c3 ho).1).1,fun t=>((c3 ho).2 t).trans ((w3 (c3 ho).1).2 t)⟩⟩
theorem Ui {ops:Array Oper} {o:Oper} {cx:Ctx} {st st':St} {e:Bool} (h:Qp ops o cx st=some (e,st')) (ho:st'.ob=true) {tmps:Array Value} (hsz:tmps.size=cx.n)
  (hg: ∀d,Ug ops o=some d→Yy ρ (st.tmp d) (tmps.getD d undef)):Region.wanted o (yielded ops tmps)=e:=by
 obtain ⟨st1,h1,_,_,c3,_⟩:=Kj h;exact w0x h1 (c3 ho).1 hsz hg
structure j4x (P:Program) (cx:Ctx) (o:Oper) (st st':St) (v:AVal):Prop where
 ob:st.ob=true
 does: ∀(ρ:Rho) (a:Act) (w:World) (ev:Operand→AVal),(∀x,x∈o.op.operands→ev x=st.eval x)→Qc ρ ev a.eval o.op→Rel ρ st.mem st.next w→Does P o a w (x2l ρ cx.floor st st' v w)
 calm:(Xw o.op=.pure ∨Xw o.op=.read)→ ∀(ρ:Rho) (a:Act) (w:World) (ev:Operand→AVal) (mem:Mem) (next:Nat),(∀x,x∈o.op.operands→ev x=st.eval x)→Qc ρ ev a.eval o.op→Rel ρ mem next w→
  (∀t y b ab,o.op=.load t y→x7x o.op ev=some b→Yf st.mem b=some ab→Yf mem b=some ab)→ ∃u,(execOp a.eval o).run P w=.ok (.value u) w∧Yy ρ v u
theorem v3a {op:Op} {ev:Operand→AVal} {x:AVal×Bool} (h:Kn P op ev=some x):Xw op=.pure :=by
 cases op with
 | call c=>
  obtain ⟨callee,args,argTypes⟩:=c;cases callee with
  | builtin b=>cases b <;> first | rfl | (simp [Kn,y3v] at h)
  | value f=>simp [Kn] at h
  | invoke r m=>rfl
 | _=>first | rfl | (simp [Kn] at h;done)
theorem x8i {S:Specs} {R:Runner} (hN:z9c P) (hS:Zu P S) (hRI:w3z R) (hR:ROk P R) {lift:Bool} {o:Oper} {cx:Ctx} {st st':St} (hcx:cx.floor≤st.next) (h:z8e P S R lift o cx st=some st'):
  ∃v stm,stm.put cx o.dst v=some st'∧stm.env=st.env∧Xd cx.floor st stm∧((Xw o.op=.pure ∨Xw o.op=.read)→stm.mem=st.mem∧stm.next=st.next)∧
   (lift=true→Xw o.op=.call → ∀b,b<st.next→wrC S o.op st.eval≠some b→Yf stm.mem b=Yf st.mem b)∧
   (Xw o.op=.chain → ∀b,b<st.next→x2j o.op st.eval≠some b→Yf stm.mem b=Yf st.mem b)∧
   (Xw o.op=.alloc →v=.ptr st.next 0∧ ∃t z,o.op=.alloc t∧Qa P t=some z∧stm=y0i st z t)∧
   (st'.ob=true→j4x P cx o st stm v):=by
 unfold z8e at h;split at h
 ·rename_i v b hp;have hk:=v3a hp;split at h
  ·rename_i st1 h1;obtain ⟨e1,e2,e3,e4⟩:=Xh h1;refine ⟨v,st1,h,e1,Xd.same e2 e3 fun x=>(e4 x).2,fun _=>⟨e2,e3⟩,(fun _ hc=>by rw [hk] at hc;cases hc),(fun hc=>by rw [hk] at hc;cases hc),(fun hc=>by rw [hk] at hc;cases hc),fun ho=> ?_⟩;obtain ⟨_,_,p3,_⟩:=Wd h;rw [p3] at ho;obtain ⟨rfl,ho1⟩:=e4 ho;refine ⟨ho1,fun ρ a w ev hev hr cS=> ?_,fun _ ρ a w ev mem next hev hr cS hag=> ?_⟩
   ·have hr':Qc ρ st.eval a.eval o.op:=fun x hx=>by rw [←hev x hx];exact hr x hx
    obtain ⟨u,hu,cU⟩:=y6g hp rfl hr';exact .inl ⟨ρ,u,w,cU w,hu,by rw [e2,e3];exact cS,by rw [e2,e3];exact Ev.refl _ _ _ _ _ cS.dom⟩
   ·have hr':Qc ρ st.eval a.eval o.op:=fun x hx=>by rw [←hev x hx];exact hr x hx
    obtain ⟨u,hu,cU⟩:=y6g hp rfl hr';exact ⟨u,cU w,hu⟩
  ·cases h
 ·split at h
  ·rename_i v stm he;obtain ⟨fJ,dA⟩:=y6k hRI he;refine ⟨v,stm,h,dA,fJ,fun hk=> ?_,fun hl hk b hb hw=> ?_,fun hk b hb hn=>x5c hk hb hn he,fun hk=> ?_,fun ho=> ?_⟩
   ·obtain ⟨dst,op,type,pos,after,guard⟩:=o;simp only at hk he;cases op with
    | load t x=>
     simp only [Wb] at he;split at he
     ·rename_i hl;obtain ⟨l1,l2,l3,l4⟩:=z3o hl;simp only [An,Ad] at he;obtain ⟨_,h1,_,rfl⟩:=he;obtain ⟨_,e2,e3,_⟩:=Xh h1;exact ⟨e2.trans l2,e3.trans l3⟩
     ·cases he
    | call c=>
     obtain ⟨callee,args,argTypes⟩:=c;cases callee with
     | builtin b=>cases b <;> first | (simp [Wb] at he;done) | (simp [Xw] at hk;done)
     | value f=>simp [Xw] at hk
     | invoke r m=>simp [Wb] at he
    | _=>first | (simp [Wb] at he;done) | (simp [Xw] at hk;done)
   ·obtain ⟨dst,op,type,pos,after,guard⟩:=o;simp only at hk he;cases op with
    | call c=>
     obtain ⟨callee,args,argTypes⟩:=c;cases callee with
     | builtin b=>cases b <;> first | (simp [Wb] at he;done) | (simp [Xw] at hk;done)
     | value f=>
      simp only [Wb] at he;split at he
      ·rename_i g caps hf;exact (z9b hRI he).1.2 hl b hb (by simpa only [wrC,hf] using hw)
      ·rename_i g first hf
       exact (z9b hRI he).1.2 hl b hb (by simpa only [wrC,hf] using hw)
      ·cases he
     | invoke r m=>simp [Wb] at he
    | _=>first | (simp [Wb] at he;done) | (simp [Xw] at hk;done)
   ·obtain ⟨dst,op,type,pos,after,guard⟩:=o;simp only at hk he;cases op with
    | alloc t=>simp only [Wb,An,Ad] at he;obtain ⟨z,hz,rfl,rfl⟩:=he;exact ⟨rfl,t,z,rfl,hz,rfl⟩
    | call c=>
     obtain ⟨callee,args,argTypes⟩:=c;cases callee with
     | builtin b=>cases b <;> first | (simp [Wb] at he;done) | (simp [Xw] at hk;done)
     | value f=>simp [Xw] at hk
     | invoke r m=>simp [Wb] at he
    | _=>first | (simp [Wb] at he;done) | (simp [Xw] at hk;done)
   ·obtain ⟨_,_,p3,_⟩:=Wd h;rw [p3] at ho;refine ⟨fJ.ob ho,fun ρ a w ev hev hr cS=>x2d hN hS hR hcx he ho hev hr cS,fun hk ρ a w ev mem next hev hr cS hag=> ?_⟩;obtain ⟨dst,op,type,pos,after,guard⟩:=o;simp only at hk he hev hr hag;cases op with
    | load t x=>
     simp only [Wb] at he;split at he
     ·rename_i v' bb st0 hv;obtain ⟨l1,l2,l3,l4⟩:=z3o hv;simp only [An,Ad] at he;obtain ⟨st1,h1,rfl,rfl⟩:=he;obtain ⟨_,_,_,e4⟩:=Xh h1;obtain ⟨rfl,hob0⟩:=e4 ho;have hv:=(l4 hob0).1;have hx:x∈(Op.load t x).operands :=(by simp [Op.operands]);have hl:y6j P mem t (ev x)=some (v',true):=by
       rw [hev x hx];have hag': ∀b ab,x7x (.load t x) st.eval=some b→Yf st.mem b=some ab→Yf mem b=some ab:=fun b ab q1 q2=>hag t x b ab rfl (by simp only [x7x,hev x hx] at q1 ⊢;exact q1) q2;unfold y6j at hv ⊢;split at hv
       ·rename_i b sz r fo hb;simp only [x7x,hb] at hag';split at hv
        ·rename_i ab hm;rw [hag' b ab rfl hm];exact hv
        ·cases hv
       ·rename_i y hy;unfold w1a at hv ⊢;split at hv
        ·rename_i b off hb;simp only [x7x,hb] at hag';split at hv
         ·rename_i ab hm;rw [hag' b ab rfl hm];exact hv
         ·cases hv
        ·exact hv
        ·cases hv
      obtain ⟨z,hz,cU⟩:=y1k cS hl (hr x hx);exact ⟨z,by simp [execOp,cU],hz⟩
     ·cases he
    | call c=>
     obtain ⟨callee,args,argTypes⟩:=c;cases callee with
     | builtin b=>cases b <;> first | (simp [Wb] at he;done) | (simp [Xw] at hk;done)
     | value f=>simp [Xw] at hk
     | invoke r m=>simp [Wb] at he
    | _=>first | (simp [Wb] at he;done) | (simp [Xw] at hk;done)
  ·cases h
theorem z6p {S:Specs} {R:Runner} {ops:Array Oper} {cx:Ctx} {x:Bool×Oper} {l:List (Bool×Oper)} {st:St}:y8r P S R ops cx (x::l) st=(y6w P S R ops cx x st).bind (y8r P S R ops cx l):=by
 show (match Qp ops x.2 cx st with
  | none=>none
  | some (true,st)=>match z8e P S R x.1 x.2 cx st with
   | some st=>y8r P S R ops cx l st
   | none=>none
  | some (false,st)=>match st.put cx x.2.dst (.tup []) with
   | some st=>y8r P S R ops cx l st
   | none=>none)=_
 unfold y6w;cases h:Qp ops x.2 cx st with
 | none=>rfl
 | some y=>
  obtain ⟨e,st1⟩:=y;cases e with
  | true=>simp only [];cases z8e P S R x.1 x.2 cx st1 <;> rfl
  | false=>simp only [];cases st1.put cx x.2.dst (.tup []) <;> rfl
theorem Does.wp2 {o:Oper} {a:Act} {w:World} {K:Rho→Value→World→Prop} {next:Act→World→Prop} {Q:Exit→Act→World→Prop} (h:Does P o a w K)
  (hk: ∀ρ' u w',K ρ' u w'→((execOp a.eval o).run P w=.ok (.value u) w'∨ ∀u w',(execOp a.eval o).run P w≠ .ok (.value u) w')→next (a.put o.dst u) w'):o.wp P a w next Q:=by
 unfold Oper.wp;rcases h with ⟨ρ',u,w',e,k⟩ | ⟨ρ',w',e,k⟩ | ⟨f,args,e,hc⟩
 ·have:=hk _ _ _ k (.inl e);rw [e];exact this
 ·have:=hk _ _ _ k (.inr fun u w' e2=>by rw [e] at e2;injection e2 with e3;cases e3);rw [e];exact this
 ·rw [e];exact hc.mono fun e' w' ⟨ρ',u,he,k⟩=>by subst he;exact hk _ _ _ k (.inr fun u w' e2=>by rw [e] at e2;injection e2 with e3;cases e3)
theorem w4r (m:Mem) (sz:Nat) (zero:List AVal) (ut:TypeDesc) (b o n:Nat) (c:w8q):x0c m sz zero ut (.sl b o n c)=none:=by cases ut <;> rfl
theorem v5s {cx:Ctx} {st:St} {ts:List TypeId} {s:AVal} {b o n:Nat} {c:w8q} {r:List AVal}:z0b P cx st ts (s::.sl b o n c::r)=none:=by
 unfold z0b;split
 ·rename_i t u tr s' x r' e;cases e;split
  ·split
   ·simp only [w4r];split
    ·rename_i e;cases e
    ·rfl
   ·rfl
  ·rfl
 ·rfl
theorem w7b {S:Specs} {R:Runner} {lift:Bool} {o:Oper} {cx:Ctx} {st st':St} (h:z8e P S R lift o cx st=some st') (hob:st'.ob=true) {b:Nat} (hk:w0v o.op st.eval st.mem=some b) {a:Act} {w:World} (hr:Qc ρ st.eval a.eval o.op) (cS:Rel ρ st.mem st.next w):
  ∃u w',(execOp a.eval o).run P w=.ok (.value u) w'∧ ∀ab l,Yf st.mem b=some ab→ρ b=some l→Ux ρ w' ab l:=by
 obtain ⟨dst,op,type,pos,after,guard⟩:=o;simp only at hk hr;unfold w0v at hk;split at hk
 ·rename_i args argTypes;have cW:Wr (Yy ρ) (args.toList.map st.eval) (args.map a.eval).toList :=by rw [B5];exact Wr.maps _ _ _ fun x hx=>hr x (by simp [Op.operands,Call.operands];exact A7.1 hx)
  have h:(match z1g P cx st argTypes.toList (args.toList.map st.eval) with
   | some (v,st2)=>st2.put cx dst v
   | none=>none)=some st':=h
  split at h
  ·rename_i v st2 h2;have ho2:st2.ob=true:=by obtain ⟨_,_,p3,_⟩:=Wd h;rw [←p3];exact hob
   unfold z1g at h2;split at hk
   ·rename_i b' sz off len z b2 o2 n2 c2 r he;obtain rfl:=Af hk;rw [he] at h2 cW;rcases Uh h2 with ⟨_,h2⟩ | ⟨_,h2⟩
    ·rw [v5s] at h2;cases h2
    ·obtain ⟨ρ',u,w',cU,_,hq⟩:=z6b (type:=type) cS h2 ho2 cW;exact ⟨u,w',by simp [execOp,resolve,invoke,builtin,cU],fun ab l k1 k2=>hq _ _ _ _ _ _ _ _ rfl k1 k2⟩
   ·rename_i b' off len z b2 o2 n2 c2 r he;split at hk
    ·rename_i blk hm;obtain ⟨hc,hk⟩:=Zr hk;obtain rfl:=Af hk;simp only [Ac] at hc;rw [he] at h2 cW;rcases Uh h2 with ⟨_,h2⟩ | ⟨_,h2⟩
     ·rw [v5s] at h2;cases h2
     ·obtain ⟨ρ',u,w',cU,_,_,hq⟩:=z0a (type:=type) cS cx.floor h2 cW;refine ⟨u,w',by simp [execOp,resolve,invoke,builtin,cU],fun ab l k1 k2=> ?_⟩;rw [hm] at k1;obtain rfl:=Af k1;exact hq.1 _ _ _ _ _ _ _ _ _ _ _ rfl (Ak hc.2) hm (Aj hc.1) k2
    ·cases hk
   ·cases hk
  ·cases h
 ·cases hk
structure Step1 (S:Specs) (P:Program) (ops:Array Oper) (cx:Ctx) (x:Bool×Oper) (st st':St):Prop where
 inv:Xd cx.floor st st'
 stay:(Xw x.2.op=.pure ∨Xw x.2.op=.read)→st'.mem=st.mem∧st'.next=st.next
 lift:st'.ob=true→x.1=true→Xw x.2.op=.call → ∀b,b<st.next→wrC S x.2.op st.eval≠some b→Yf st'.mem b=Yf st.mem b
 foot:st'.ob=true→Xw x.2.op=.chain → ∀b,b<st.next→x2j x.2.op st.eval≠some b→Yf st'.mem b=Yf st.mem b
 alloc:Xw x.2.op=.alloc →x.2.guard=none→ ∃t z,x.2.op=.alloc t∧Qa P t=some z∧st'.mem=(y0i st z t).mem ∧st'.next=(y0i st z t).next ∧ ∀d,x.2.dst=some d→st'.tmp d=.ptr st.next 0
 slot: ∀d,x.2.dst=some d→d<cx.n
 other:st'.ob=true→ ∀t,x.2.dst≠some t→st'.tmp t=st.tmp t
 does:st'.ob=true→ ∀(ρ:Rho) (a:Act) (w:World) (ev:Operand→AVal),a.tmps.size=cx.n→(∀y,y∈x.2.op.operands→ev y=st.eval y)→(∀d,Ug ops x.2=some d→Yy ρ (st.tmp d) (a.tmps.getD d undef))→Qc ρ ev a.eval x.2.op→Rel ρ st.mem st.next w→
  ∀(K:Act→World→Prop) (Q:Exit→Act→World→Prop),(∀ρ' u w',(∀d,x.2.dst=some d→Yy ρ' (st'.tmp d) u)→Rel ρ' st'.mem st'.next w'→Ev ρ ρ' cx.floor st.mem st.next st'.mem st'.next w w'→(∀b ab l,w0v x.2.op st.eval st.mem=some b→Yf st.mem b=some ab→ρ b=some l→Ux ρ w' ab l)→K (a.put x.2.dst u) w')→
   if Region.wanted x.2 (yielded ops a.tmps) then x.2.wp P a w K Q else K (a.put x.2.dst undef) w
 calm:st'.ob=true→(Xw x.2.op=.pure ∨Xw x.2.op=.read)→ ∀(ρ:Rho) (a:Act) (w:World) (ev:Operand→AVal) (mem:Mem) (next:Nat),a.tmps.size=cx.n→(∀y,y∈x.2.op.operands→ev y=st.eval y)→(∀d,Ug ops x.2=some d→Yy ρ (st.tmp d) (a.tmps.getD d undef))→Qc ρ ev a.eval x.2.op→Rel ρ mem next w→
  (∀t y b ab,x.2.op=.load t y→x7x x.2.op ev=some b→Yf st.mem b=some ab→Yf mem b=some ab)→ ∀(K:Act→World→Prop) (Q:Exit→Act→World→Prop),(∀u,(∀d,x.2.dst=some d→Yy ρ (st'.tmp d) u)→K (a.put x.2.dst u) w)→
   if Region.wanted x.2 (yielded ops a.tmps) then x.2.wp P a w K Q else K (a.put x.2.dst undef) w
theorem y7n {S:Specs} {R:Runner} (hN:z9c P) (hS:Zu P S) (hRI:w3z R) (hR:ROk P R) {ops:Array Oper} {x:Bool×Oper} {cx:Ctx} {st st':St} (hcx:cx.floor≤st.next) (h:y6w P S R ops cx x st=some st'):
  Step1 S P ops cx x st st':=by
 unfold y6w at h;split at h
 ·cases h
 ·rename_i st1 hw;obtain ⟨w1,w2,w3⟩:=Wx hw;obtain ⟨v,stm,hp,dA,fJ,hstay,hlift,hfoot,halloc,hdo⟩:=x8i hN hS hRI hR (by rw [w2];exact hcx) h;obtain ⟨p1,p2,p3,p4⟩:=Wd hp;have eQ: ∀d,x.2.dst=some d→st'.tmp d=v:=fun d hd=>by
   rcases p4 with ⟨e,_⟩ | ⟨d',e,_,he⟩
   ·rw [hd] at e;cases e
   ·rw [hd] at e;obtain rfl:=Af e;show T.get .undef st'.env d=v;rw [he,T.get_set,AB rfl]
  have hi1:Xd cx.floor st st1:=Xd.same w1 w2 fun ho=>(w3 ho).1;have hi2:Xd cx.floor stm st':=Xd.same p1 p2 fun ho=>by rw [←p3];exact ho
  refine ⟨(hi1.trans fJ).trans hi2,fun hk=> ?_,fun ho hl hk b hb hn=> ?_,fun ho hk b hb hn=> ?_,fun hk hg=> ?_,fun d hd=> ?_,fun ho t ht=> ?_,fun ho ρ a w ev hsz hev hgr hr cS K Q hK=> ?_,fun ho hk ρ a w ev mem next hsz hev hgr hr cS hag K Q hK=> ?_⟩
  ·obtain ⟨s1,s2⟩:=hstay hk;exact ⟨p1.trans (s1.trans w1),p2.trans (s2.trans w2)⟩
  ·have ho1:st1.ob=true:=fJ.ob (by rw [←p3];exact ho);have dH:st1.eval=st.eval:=by
    funext y
    cases y with
    | tmp t=>exact (w3 ho1).2 t
    | _=>rfl
   rw [p1,hlift hl hk b (by rw [w2];exact hb) (by rw [dH];exact hn),w1]
  ·have ho1:st1.ob=true:=fJ.ob (by rw [←p3];exact ho);have dH:st1.eval=st.eval:=by
    funext y
    cases y with
    | tmp t=>exact (w3 ho1).2 t
    | _=>rfl
   rw [p1,hfoot hk b (by rw [w2];exact hb) (by rw [dH];exact hn),w1]
  ·obtain ⟨e1,t,z,e2,e3,e4⟩:=halloc hk;have hst:st1=st:=by obtain ⟨st0,hw0,_,_,_,hw1⟩:=Kj hw;rw [hw1 (.inl hk)];unfold z8z at hw0;rw [hg] at hw0;simp only [Ae,Ad] at hw0;exact hw0.2.symm
   subst hst;exact ⟨t,z,e2,e3,by rw [p1,e4],by rw [p2,e4],fun d hd=>by rw [eQ d hd,e1]⟩
  ·rcases p4 with ⟨e,_⟩ | ⟨d',e,hlt,_⟩
   ·rw [hd] at e;cases e
   ·rw [hd] at e;obtain rfl:=Af e;exact hlt
  ·have ho1:st1.ob=true:=fJ.ob (by rw [←p3];exact ho);rw [←(w3 ho1).2 t];show T.get .undef st'.env t=T.get .undef st1.env t;rcases p4 with ⟨_,he⟩ | ⟨d,e,_,he⟩
   ·rw [he,dA]
   ·rw [he,dA,T.get_set,Aw (by intro htd;subst htd;exact ht e)]
  ·have ho1:st1.ob=true:=fJ.ob (by rw [←p3];exact ho);have dH:=(w3 ho1).2;have eR: ∀y,st1.eval y=st.eval y:=fun y=>by cases y <;> first | rfl | exact dH _
   rw [Ui hw ho1 hsz hgr,AB rfl];refine ((hdo ho).does ρ a w ev (fun y hy=>by rw [eR y];exact hev y hy) hr (by rw [w1,w2];exact cS)).wp2 fun ρ' u w' hpost cU=> ?_;have he:=hpost.ev;rw [w1,w2] at he;refine hK ρ' u w' (fun d hd=>by rw [eQ d hd];exact hpost.val) (by rw [p1,p2];exact hpost.rel) (by rw [p1,p2];exact he) fun b ab l k1 k2 k3=> ?_;have hr':Qc ρ st1.eval a.eval x.2.op:=fun y hy=>by rw [eR y,←hev y hy];exact hr y hy
   have e1:st1.eval=st.eval:=funext eR;obtain ⟨u0,w0,r1,r2⟩:=w7b h ho (by rw [e1,w1];exact k1) hr' (by rw [w1,w2];exact cS);rcases cU with cU | cU
   ·rw [r1] at cU;have:w0=w':=(by injection cU);subst this;exact r2 ab l (by rw [w1];exact k2) k3
   ·exact absurd r1 (cU _ _)
  ·have ho1:st1.ob=true:=fJ.ob (by rw [←p3];exact ho);have dH:=(w3 ho1).2;have eR: ∀y,st1.eval y=st.eval y:=fun y=>by cases y <;> first | rfl | exact dH _
   rw [Ui hw ho1 hsz hgr,AB rfl];obtain ⟨u,cU,hu⟩:=(hdo ho).calm hk ρ a w ev mem next (fun y hy=>by rw [eR y];exact hev y hy) hr cS (fun t y b ab q1 q2 q3=>hag t y b ab q1 q2 (by rw [←w1];exact q3))
   unfold Oper.wp;rw [cU];exact hK u fun d hd=>by rw [eQ d hd];exact hu
 ·rename_i st1 hw;obtain ⟨w1,w2,w3⟩:=Wx hw;obtain ⟨p1,p2,p3,p4⟩:=Wd h;have eQ: ∀d,x.2.dst=some d→st'.tmp d=.tup []:=fun d hd=>by
   rcases p4 with ⟨e,_⟩ | ⟨d',e,_,he⟩
   ·rw [hd] at e;cases e
   ·rw [hd] at e;obtain rfl:=Af e;show T.get .undef st'.env d=.tup [];rw [he,T.get_set,AB rfl]
  refine ⟨Xd.same (p1.trans w1) (p2.trans w2) fun ho=>(w3 (by rw [←p3];exact ho)).1,fun _=>⟨p1.trans w1,p2.trans w2⟩,fun _ _ _ b _ _=>by rw [p1,w1],fun _ _ b _ _=>by rw [p1,w1],fun hk hg=> ?_,fun d hd=> ?_,fun ho t ht=> ?_,fun ho ρ a w ev hsz hev hgr hr cS K Q hK=> ?_,fun ho hk ρ a w ev mem next hsz hev hgr hr cS hag K Q hK=> ?_⟩
  ·obtain ⟨st0,hw0,_⟩:=Kj hw;unfold z8z at hw0;rw [hg] at hw0;simp at hw0
  ·rcases p4 with ⟨e,_⟩ | ⟨d',e,hlt,_⟩
   ·rw [hd] at e;cases e
   ·rw [hd] at e;obtain rfl:=Af e;exact hlt
  ·rw [←(w3 (by rw [←p3];exact ho)).2 t];show T.get .undef st'.env t=T.get .undef st1.env t;rcases p4 with ⟨_,he⟩ | ⟨d,e,_,he⟩
   ·rw [he]
   ·rw [he,T.get_set,Aw (by intro htd;subst htd;exact ht e)]
  ·have ho1:st1.ob=true:=by rw [←p3];exact ho
   rw [Ui hw ho1 hsz hgr,Aw (by simp)];refine hK ρ undef w (fun d hd=>by rw [eQ d hd];exact .tup [] #[] rfl fun i h1 _=>by simp at h1) ?_ ?_ fun b ab l _ k2 k3=>cS.blk b l ab k3 k2
   ·rw [p1,p2,w1,w2];exact cS
   ·rw [p1,p2,w1,w2];exact Ev.refl _ _ _ _ _ cS.dom
  ·have ho1:st1.ob=true:=by rw [←p3];exact ho
   rw [Ui hw ho1 hsz hgr,Aw (by simp)];exact hK undef fun d hd=>by rw [eQ d hd];exact .tup [] #[] rfl fun i h1 _=>by simp at h1
def Fin (D:List Deferred) (ρ:Rho) (cx:Ctx) (st st':St) (w:World):Exit→Act→World→Prop:=fun e a' w'=>
 e=.normal ∧a'.defers=D∧ ∃ρ',Wp ρ' st'.env cx.n a'.tmps∧Rel ρ' st'.mem st'.next w'∧Ev ρ ρ' cx.floor st.mem st.next st'.mem st'.next w w'
def v8d (ρ:Rho) (k:Nat) (o:Obj):Rho:=⟨ρ.f,fun j=>if j=k then some o else ρ.fz j,ρ.lp⟩
theorem x0n {k:Nat} {o:Obj} (h:ρ.fz k=none):ρ.le (v8d ρ k o):=
 ⟨fun _ _ e=>e,fun j o' e=>by
  show (if j=k then some o else ρ.fz j)=some o';by_cases hj:j=k
  ·subst hj;rw [h] at e;cases e
  ·rw [Aw hj];exact e,fun _ _ e=>e⟩
theorem Rel.froze {mem:Mem} {next:Nat} {w:World} (h:Rel ρ mem next w) (vs:Array Value) (el:TypeId):
  Rel (v8d ρ w.heap.size (.cells vs el)) mem next {w with heap:=w.heap.push (.cells vs el)}:=by
 have hle:=x0n (o:=.cells vs el) (h.hold w.heap.size (Ao _));have push: ∀k,k<w.heap.size→(w.heap.push (.cells vs el))[k]? =w.heap[k]? :=fun k hk=>by simp [Bm,A6 hk]
 refine ⟨h.dom,h.inj,fun b l ab e hm=> ?_,fun k o e=> ?_,fun b l e hs=> ?_,fun b l e=> ?_,h.bd,h.ldom⟩
 ·exact (h.blk b l ab e hm).world hle (push _ (h.real b l e))
 ·have e:(if k=w.heap.size then some (.cells vs el) else ρ.fz k)=some o:=e;show (w.heap.push (.cells vs el))[k]? =some o;by_cases hk:k=w.heap.size
  ·rw [AB hk] at e;rw [hk,←e];simp
  ·rw [Aw hk] at e;have:=h.old k o e;rw [push k (AM.1 this).1];exact this
 ·have:=h.real b l e;show (if l.blk=w.heap.size then _ else ρ.fz l.blk)=none;rw [Aw (by omega)];exact h.sep b l e hs
 ·have:=h.real b l e;show l.blk<(w.heap.push (.cells vs el)).size;rw [Array.size_push];omega
theorem Ev.froze {mem:Mem} {next:Nat} {w:World} (h:Rel ρ mem next w) (floor:Nat) (m:Mem) (vs:Array Value) (el:TypeId):
  Ev ρ (v8d ρ w.heap.size (.cells vs el)) floor m next m next w {w with heap:=w.heap.push (.cells vs el)}:=by
 have hle:=x0n (o:=.cells vs el) (h.hold w.heap.size (Ao _));refine ⟨hle,fun _ _=>rfl,Ao _,fun _ _ _ _ _ q=>q,fun k o q _=> ?_,fun b l hb hl=> ?_,?_,rfl,rfl,rfl,fun k hk=> ?_⟩
 ·have hk:k<w.heap.size:=(AM.1 q).1;show (w.heap.push (.cells vs el))[k]? =some o;simp only [Bm,A6 hk,Cr];exact q
 ·have:=h.dom b l hl;omega
 ·show w.heap.size≤(w.heap.push (.cells vs el)).size;rw [Array.size_push];omega
 ·show (if k=w.heap.size then _ else ρ.fz k)=ρ.fz k;rw [Aw (by omega)]
theorem w1b {w:World} {t:TypeId} {len:Nat} {ps:List (Nat×AVal)} {qs:List (Nat×Value)} {v:AVal} (hb:j4w P t len ps=some v) (hp:z1h ρ ps qs) (hf:ρ.fz w.heap.size=none):
  ∃u vs el,(Instr.buildSlice t len qs.toArray).run P w=.ok u {w with heap:=w.heap.push (.cells vs el)}∧Yy (v8d ρ w.heap.size (.cells vs el)) v u:=by
 unfold j4w at hb;split at hb
 ·rename_i e hu;split at hb
  ·rename_i i zero hi hz;obtain ⟨hc,hb⟩:=Zr hb;simp only [Ac] at hc;obtain ⟨⟨hl1,hs1⟩,hle,hzl⟩:=hc;have hl1:=Ak hl1;have hs1:=Ak hs1;have hle:=Ak hle;have hzl:=Aj hzl;split at hb
   ·rename_i cells dB;obtain ⟨hc,hb⟩:=Zr hb;simp only [Ac] at hc;obtain ⟨hn,hpf⟩:=hc;have hn:=Aj hn;obtain rfl:=Af hb;obtain ⟨_,z,_,_,hzr,hzv⟩:=Wv (ρ:=ρ) hz;have eB:=z9m hzr len (len*i.size) (by rw [hzl]);obtain ⟨arr,h1,h2⟩:=Ko dB eB hp;have hsz:arr.size=len*i.size:=(by rw [←h2.1,hn]);have hgt': ¬2 ^ 24<len*i.size:=(by omega);have hpos:0<len*i.size:=Nat.mul_pos (by omega) (by omega);have h0: ¬len*i.size=0:=(by omega);refine ⟨.slice (some ⟨w.heap.size,0,none⟩) len len,arr,e,?_,?_⟩
    ·have hsz0: ¬i.size=0:=(by omega);simp [Instr.buildSlice,run_underlying hu,Zi hi,h0,hsz0,hzv,h1,newRow,hgt']
    ·have hin: ∀a b,a<len→b<i.size→a*i.size+b<cells.length:=fun a b ha hb=>by have:(a+1)*i.size≤len*i.size:=AJ _ ha;rw [AQ,BH] at this;omega
     have dE: ∀a,a<len→((cells.drop (a*i.size)).take i.size).length =i.size:=fun a ha=>by have:(a+1)*i.size≤len*i.size:=AJ _ ha;rw [AQ,BH] at this;rw [A0,BV];omega
     refine .dat len _ w.heap.size 0 i.size len (fun a b=>arr.getD (a*i.size+b) undef) (Ao _) (fun a ha=>dE a ha) (fun a b ha hb=> ?_) (fun a b ha hb=> ?_)
     ·have hb':b<i.size:=by rw [dE a ha] at hb;exact hb
      have h3:=hin a b ha hb';have e1:((cells.drop (a*i.size)).take i.size)[b]=cells[a*i.size+b]:=by rw [Bs,List.getElem_drop]
      rw [e1];have h4:a*i.size+b<arr.size:=by rw [←h2.1];exact h3
      have e2:arr.getD (a*i.size+b) undef=arr[a*i.size+b]:=(by simp [h4]);rw [e2];have h5:=Kv 6 _ _ (Au.1 hpf _ (AR h3)) (h2.2 _ h3 h4);exact h5.mono (x0n (o:=.cells arr e) hf).bare
     ·have h3:=hin a b ha hb;have h4:a*i.size+b<arr.size:=by rw [←h2.1];exact h3
      refine ⟨arr,e,(0,0),?_,?_⟩
      ·show (if w.heap.size=w.heap.size then some (Obj.cells arr e) else _)=_;rw [AB rfl]
      ·simp [h4]
   ·cases hb
  ·cases hb
 ·cases hb
structure u1w (S:Specs) (z:Nat) (P:Program) (ops:Array Oper) (cx:Ctx) (x:Bool×Oper) (st st':St):Prop where
 inv:Xd cx.floor st st'
 stay:(Xy z x.2.op=.pure ∨Xy z x.2.op=.read ∨Xy z x.2.op=.lit)→st'.mem=st.mem∧st'.next=st.next
 lift:st'.ob=true→x.1=true→Xy z x.2.op=.call → ∀b,b<st.next→wrC S x.2.op st.eval≠some b→Yf st'.mem b=Yf st.mem b
 foot:st'.ob=true→Xy z x.2.op=.chain → ∀b,b<st.next→x2j x.2.op st.eval≠some b→Yf st'.mem b=Yf st.mem b
 fresh:st'.ob=true→(Xy z x.2.op=.alloc ∨Xy z x.2.op=.birth)→x.2.guard=none→ ∃cells ty,st'.mem=Xt st.mem st.next (some ⟨cells,ty,none⟩)∧st'.next=st.next+1∧
  ∀(ρ:Rho) (a:Act) (w:World) (ev:Operand→AVal),(∀y,y∈x.2.op.operands→ev y=st.eval y)→Qc ρ ev a.eval x.2.op→
   ∃u vs el,Vr ρ cells vs∧(execOp a.eval x.2).run P w=.ok (.value u) {w with heap:=w.heap.push (.cells vs el)}∧ ∀ρ':Rho,ρ' st.next=some ⟨w.heap.size,0,cells.length,vs.size⟩→ ∀d,x.2.dst=some d→Yy ρ' (st'.tmp d) u
 slot: ∀d,x.2.dst=some d→d<cx.n
 other:st'.ob=true→ ∀t,x.2.dst≠some t→st'.tmp t=st.tmp t
 does:st'.ob=true→(Xy z x.2.op=.chain ∨Xy z x.2.op=.call)→ ∀(ρ:Rho) (a:Act) (w:World) (ev:Operand→AVal),a.tmps.size=cx.n→(∀y,y∈x.2.op.operands→ev y=st.eval y)→(∀d,Ug ops x.2=some d→Yy ρ (st.tmp d) (a.tmps.getD d undef))→Qc ρ ev a.eval x.2.op→Rel ρ st.mem st.next w→
  ∀(K:Act→World→Prop) (Q:Exit→Act→World→Prop),(∀ρ' u w',(∀d,x.2.dst=some d→Yy ρ' (st'.tmp d) u)→Rel ρ' st'.mem st'.next w'→Ev ρ ρ' cx.floor st.mem st.next st'.mem st'.next w w'→(∀b ab l,w0v x.2.op st.eval st.mem=some b→Yf st.mem b=some ab→ρ b=some l→Ux ρ w' ab l)→K (a.put x.2.dst u) w')→
   if Region.wanted x.2 (yielded ops a.tmps) then x.2.wp P a w K Q else K (a.put x.2.dst undef) w
 calm:st'.ob=true→(Xy z x.2.op=.pure ∨Xy z x.2.op=.read)→ ∀(ρ:Rho) (a:Act) (w:World) (ev:Operand→AVal) (mem:Mem) (next:Nat),a.tmps.size=cx.n→(∀y,y∈x.2.op.operands→ev y=st.eval y)→(∀d,Ug ops x.2=some d→Yy ρ (st.tmp d) (a.tmps.getD d undef))→Qc ρ ev a.eval x.2.op→Rel ρ mem next w→
  (∀t y b ab,x.2.op=.load t y→x7x x.2.op ev=some b→Yf st.mem b=some ab→Yf mem b=some ab)→ ∀(K:Act→World→Prop) (Q:Exit→Act→World→Prop),(∀u,(∀d,x.2.dst=some d→Yy ρ (st'.tmp d) u)→K (a.put x.2.dst u) w)→
   if Region.wanted x.2 (yielded ops a.tmps) then x.2.wp P a w K Q else K (a.put x.2.dst undef) w
 lit:st'.ob=true→Xy z x.2.op=.lit → ∀(ρ:Rho) (a:Act) (w:World) (ev:Operand→AVal) (mem:Mem) (next:Nat),a.tmps.size=cx.n→(∀y,y∈x.2.op.operands→ev y=st.eval y)→(∀d,Ug ops x.2=some d→Yy ρ (st.tmp d) (a.tmps.getD d undef))→Qc ρ ev a.eval x.2.op→Rel ρ mem next w→
  ∀(K:Act→World→Prop) (Q:Exit→Act→World→Prop),(∀ρ' u w',(∀d,x.2.dst=some d→Yy ρ' (st'.tmp d) u)→Rel ρ' mem next w'→(∀b,ρ' b=ρ b)→(∀floor m,Ev ρ ρ' floor m next m next w w')→K (a.put x.2.dst u) w')→
   if Region.wanted x.2 (yielded ops a.tmps) then x.2.wp P a w K Q else K (a.put x.2.dst undef) w
theorem y5d {z:Nat} {op:Op} (h:y7c z op=false) (h2:isBirth z op=false):Xy z op=Xw op:=by unfold Xy;rw [h,h2];rfl
theorem v5t {o:Oper} {t:TypeId} {z:List AVal} (ho:o.op=.alloc t) (hz:Qa P t=some z) (a:Act) (w:World):
  ∃vs:Array Value,Vr ρ z vs∧(execOp a.eval o).run P w=.ok (.value (.pointer (some ⟨w.heap.size,0,none⟩))) {w with heap:=w.heap.push (.cells vs t)}:=by
 obtain ⟨dst,op,type,pos,after,guard⟩:=o;simp only at ho;subst ho;obtain ⟨_,zv,_,_,hzr,hzv⟩:=Wv (ρ:=ρ) hz;exact ⟨zv.cells,hzr,by simp [execOp,Instr.alloc,hzv,newVar,newRow]⟩
theorem x2e {w:World} {t:TypeId} {len:Nat} {ps:List (Nat×AVal)} {qs:List (Nat×Value)} {cells:List AVal} {e:TypeId} {sz:Nat} (hb:w1g P t len ps=some (cells,e,sz)) (hp:z1h ρ ps qs):
  ∃vs el,Vr ρ cells vs∧(Instr.buildSlice t len qs.toArray).run P w=.ok (.slice (some ⟨w.heap.size,0,none⟩) len len) {w with heap:=w.heap.push (.cells vs el)}∧cells.length=len*sz∧vs.size=len*sz:=by
 unfold w1g at hb;split at hb
 ·rename_i e hu;split at hb
  ·rename_i i zero hi hz;obtain ⟨hc,hb⟩:=Zr hb;simp only [Ac] at hc;obtain ⟨⟨hl1,hs1⟩,hle,hzl⟩:=hc;have hl1:=Ak hl1;have hs1:=Ak hs1;have hle:=Ak hle;have hzl:=Aj hzl;split at hb
   ·rename_i cells dB;obtain ⟨hn,hb⟩:=Zr hb;have hn:=Aj hn;simp only [Ae,Ad] at hb;obtain ⟨rfl,rfl,rfl⟩:=hb;obtain ⟨_,z,_,_,hzr,hzv⟩:=Wv (ρ:=ρ) hz;have eB:=z9m hzr len (len*i.size) (by rw [hzl]);obtain ⟨arr,h1,h2⟩:=Ko dB eB hp;have hsz:arr.size=len*i.size:=(by rw [←h2.1,hn]);have hgt': ¬2 ^ 24<len*i.size:=(by omega);have hpos:0<len*i.size:=Nat.mul_pos (by omega) (by omega);have h0: ¬len*i.size=0:=(by omega);have hsz0: ¬i.size=0:=(by omega);exact ⟨arr,e,h2,by simp [Instr.buildSlice,run_underlying hu,Zi hi,h0,hsz0,hzv,h1,newRow,hgt'],hn,hsz⟩
   ·cases hb
  ·cases hb
 ·cases hb
theorem y9f (op:Op):Xw op≠ .lit :=by
 cases op with
 | call c=>
  obtain ⟨callee,args,argTypes⟩:=c;cases callee with
  | builtin b=>cases b <;> exact fun h=>by cases h
  | value f=>exact fun h=>by cases h
  | invoke r m=>exact fun h=>by cases h
 | _=>exact fun h=>by cases h
theorem y1e (op:Op):Xw op≠ .birth :=by
 cases op with
 | call c=>
  obtain ⟨callee,args,argTypes⟩:=c;cases callee with
  | builtin b=>cases b <;> exact fun h=>by cases h
  | value f=>exact fun h=>by cases h
  | invoke r m=>exact fun h=>by cases h
 | _=>exact fun h=>by cases h
theorem w4o {S:Specs} {R:Runner} (hN:z9c P) (hS:Zu P S) (hRI:w3z R) (hR:ROk P R) {z:Nat} {ops:Array Oper} {x:Bool×Oper} {cx:Ctx} {st st':St} (hcx:cx.floor≤st.next) (h:x6c z P S R ops cx x st=some st'):
  u1w S z P ops cx x st st':=by
 unfold x6c at h;cases hz:y7c z x.2.op with
 | false=>
  rw [hz,Aa] at h;cases hz2:isBirth z x.2.op with
  | false=>
   rw [hz2,Aa] at h;have s:=y7n hN hS hRI hR hcx h;have hk:=y5d hz hz2;refine ⟨s.inv,fun k=> ?_,?_,?_,?_,s.slot,s.other,fun ho _=>s.does ho,fun ho k=>s.calm ho (by rw [←hk];exact k),fun _ k=> ?_⟩
   ·rw [hk] at k;rcases k with k | k | k
    ·exact s.stay (.inl k)
    ·exact s.stay (.inr k)
    ·exact absurd k (y9f _)
   ·rw [hk];exact s.lift
   ·rw [hk];exact s.foot
   ·intro _ k hg;have k:Xw x.2.op=.alloc :=by
     rw [hk] at k;rcases k with k | k
     ·exact k
     ·exact absurd k (y1e _)
    obtain ⟨t,z0,e1,e2,e3,e4,e5⟩:=s.alloc k hg;refine ⟨z0,t,e3,e4,fun ρ a w ev _ _=> ?_⟩;obtain ⟨vs,hvs,cU⟩:=v5t (P:=P) (ρ:=ρ) e1 e2 a w;exact ⟨_,vs,t,hvs,cU,fun ρ' hρ d hd=>by rw [e5 d hd];exact .ptr _ 0 _ hρ⟩
   ·rw [hk] at k;exact absurd k (y9f _)
  | true=>
   rw [hz2,Ab] at h;have hk:Xy z x.2.op=.birth :=by unfold Xy;rw [hz,hz2];rfl
   obtain ⟨lf,o⟩:=x;obtain ⟨dst,op,type,pos,after,guard⟩:=o;simp only at h hz hz2 hk ⊢;cases op with
   | buildSlice t len parts=>
    split at h
    ·cases h
    ·rename_i st1 hw;obtain ⟨w1,w2,w3⟩:=Wx hw;unfold y6e at h;simp only at h;split at h
     ·rename_i cells e sz hv;obtain ⟨p1,p2,p3,p4⟩:=Wd h;have eQ: ∀d,dst=some d→st'.tmp d=.sl st1.next 0 len (bif cx.sym then .un sz else .ex len):=fun d hd=>by
       rcases p4 with ⟨e,_⟩ | ⟨d',e,_,he⟩
       ·rw [hd] at e;cases e
       ·rw [hd] at e;obtain rfl:=Af e;show T.get .undef st'.env d=_;rw [he,T.get_set,AB rfl]
      have hi1:Xd cx.floor st st1:=Xd.same w1 w2 fun ho=>(w3 ho).1;have hi2:Xd cx.floor (y0i st1 cells e) st':=Xd.same p1 p2 fun ho=>by rw [←p3];exact ho
      obtain ⟨env1,mem1,next1,orc1,ob1⟩:=st1;simp only [y0i] at p1 p2 p3 p4;simp only at w1 w2 eQ;refine ⟨(hi1.trans (Xd.new _ _ _)).trans hi2,(fun k=>by rw [hk] at k;rcases k with k | k | k <;> cases k),(fun _ _ k=>by rw [hk] at k;cases k),(fun _ k=>by rw [hk] at k;cases k),fun ho _ _=> ?_,fun d hd=> ?_,fun ho t ht=> ?_,(fun _ k=>by rcases k with k | k <;> rw [hk] at k <;> cases k),(fun _ k=>by rcases k with k | k <;> rw [hk] at k <;> cases k),(fun _ k=>by rw [hk] at k;cases k)⟩
      ·have ho1:ob1=true:=by rw [←p3];exact ho
       have dH:=(w3 ho1).2;refine ⟨cells,e,by rw [p1,w1,w2],by rw [p2,w2],fun ρ a w ev hev hr=> ?_⟩;have eR: ∀y,St.eval ⟨env1,mem1,next1,orc1,ob1⟩ y=st.eval y:=fun y=>by cases y <;> first | rfl | exact dH _
       have hpr:z1h ρ (parts.toList.map fun p=>(p.1,St.eval ⟨env1,mem1,next1,orc1,ob1⟩ p.2)) (parts.toList.map fun p=>(p.1,a.eval p.2)):=z2x parts.toList fun p hp=>by
        have hm:p.2∈(Op.buildSlice t len parts).operands :=by simp only [Op.operands,List.mem_toArray,AX];exact ⟨p,hp,rfl⟩
        rw [eR p.2,←hev p.2 hm];exact hr p.2 hm
       obtain ⟨vs,el,hvs,cU,hn1,hn2⟩:=x2e (w:=w) hv hpr;have hpa:(parts.map fun (i,x)=>(i,a.eval x))=(parts.toList.map fun p=>(p.1,a.eval p.2)).toArray :=by apply Array.ext';simp
       refine ⟨.slice (some ⟨w.heap.size,0,none⟩) len len,vs,el,hvs,by simp [execOp,hpa,cU],fun ρ' hρ d hd=> ?_⟩;rw [eQ d hd,w2];refine .sl _ 0 len _ ⟨w.heap.size,0,cells.length,vs.size⟩ len hρ ?_ (Ao _);cases cx.sym with
       | true=>exact ⟨by simp only [Ag];rw [hn1];exact Ao _,by simp only [Ag];rw [hn2];exact Ao _⟩
       | false=>exact rfl
      ·rcases p4 with ⟨e,_⟩ | ⟨d',e,hlt,_⟩
       ·simp only at hd;rw [hd] at e;cases e
       ·simp only at hd;rw [hd] at e;obtain rfl:=Af e;exact hlt
      ·have ho1:ob1=true:=by rw [←p3];exact ho
       rw [←(w3 ho1).2 t];show T.get .undef st'.env t=T.get .undef env1 t;rcases p4 with ⟨_,he⟩ | ⟨d,e,_,he⟩
       ·rw [he]
       ·rw [he,T.get_set,Aw (by intro htd;subst htd;exact ht e)]
     ·cases h
    ·rename_i st1 hw;obtain ⟨w1,w2,w3⟩:=Wx hw;obtain ⟨p1,p2,p3,p4⟩:=Wd h;have hi1:Xd cx.floor st st1:=Xd.same w1 w2 fun ho=>(w3 ho).1;have hi2:Xd cx.floor st1 st':=Xd.same p1 p2 fun ho=>by rw [←p3];exact ho
     refine ⟨hi1.trans hi2,(fun k=>by rw [hk] at k;rcases k with k | k | k <;> cases k),(fun _ _ k=>by rw [hk] at k;cases k),(fun _ k=>by rw [hk] at k;cases k),fun _ _ hg=> ?_,fun d hd=> ?_,fun ho t ht=> ?_,(fun _ k=>by rcases k with k | k <;> rw [hk] at k <;> cases k),(fun _ k=>by rcases k with k | k <;> rw [hk] at k <;> cases k),(fun _ k=>by rw [hk] at k;cases k)⟩
     ·obtain ⟨st0,hw0,_⟩:=Kj hw;unfold z8z at hw0;simp only at hg;rw [hg] at hw0;simp at hw0
     ·rcases p4 with ⟨e,_⟩ | ⟨d',e,hlt,_⟩
      ·simp only at hd;rw [hd] at e;cases e
      ·simp only at hd;rw [hd] at e;obtain rfl:=Af e;exact hlt
     ·have ho1:st1.ob=true:=by rw [←p3];exact ho
      rw [←(w3 ho1).2 t];show T.get .undef st'.env t=T.get .undef st1.env t;rcases p4 with ⟨_,he⟩ | ⟨d,e,_,he⟩
      ·rw [he]
      ·rw [he,T.get_set,Aw (by intro htd;subst htd;exact ht e)]
   | _=>cases hz2
 | true=>
  rw [hz,Ab] at h;have hk:Xy z x.2.op=.lit :=by unfold Xy;rw [hz];rfl
  obtain ⟨lf,o⟩:=x;obtain ⟨dst,op,type,pos,after,guard⟩:=o;simp only at h hz hk ⊢;cases op with
  | buildSlice t len parts=>
   split at h
   ·cases h
   ·rename_i st1 hw;obtain ⟨w1,w2,w3⟩:=Wx hw;unfold x8x at h;simp only at h;split at h
    ·rename_i v hv;obtain ⟨p1,p2,p3,p4⟩:=Wd h;have eQ: ∀d,dst=some d→st'.tmp d=v:=fun d hd=>by
      rcases p4 with ⟨e,_⟩ | ⟨d',e,_,he⟩
      ·rw [hd] at e;cases e
      ·rw [hd] at e;obtain rfl:=Af e;show T.get .undef st'.env d=v;rw [he,T.get_set,AB rfl]
     have hi1:Xd cx.floor st st1:=Xd.same w1 w2 fun ho=>(w3 ho).1;have hi2:Xd cx.floor st1 st':=Xd.same p1 p2 fun ho=>by rw [←p3];exact ho
     refine ⟨hi1.trans hi2,fun _=>⟨p1.trans w1,p2.trans w2⟩,(fun _ _ k=>by rw [hk] at k;cases k),(fun _ k=>by rw [hk] at k;cases k),(fun _ k=>by rw [hk] at k;rcases k with k | k <;> cases k),fun d hd=> ?_,fun ho t ht=> ?_,(fun _ k=>by rcases k with k | k <;> rw [hk] at k <;> cases k),(fun _ k=>by rcases k with k | k <;> rw [hk] at k <;> cases k),fun ho _ ρ a w ev mem next hsz hev hgr hr cS K Q hK=> ?_⟩
     ·rcases p4 with ⟨e,_⟩ | ⟨d',e,hlt,_⟩
      ·simp only at hd;rw [hd] at e;cases e
      ·simp only at hd;rw [hd] at e;obtain rfl:=Af e;exact hlt
     ·have ho1:st1.ob=true:=by rw [←p3];exact ho
      rw [←(w3 ho1).2 t];show T.get .undef st'.env t=T.get .undef st1.env t;rcases p4 with ⟨_,he⟩ | ⟨d,e,_,he⟩
      ·rw [he]
      ·rw [he,T.get_set,Aw (by intro htd;subst htd;exact ht e)]
     ·have ho1:st1.ob=true:=by rw [←p3];exact ho
      have dH:=(w3 ho1).2;have eR: ∀y,st1.eval y=st.eval y:=fun y=>by cases y <;> first | rfl | exact dH _
      rw [Ui hw ho1 hsz hgr,AB rfl];have hpr:z1h ρ (parts.toList.map fun p=>(p.1,st1.eval p.2)) (parts.toList.map fun p=>(p.1,a.eval p.2)):=z2x parts.toList fun p hp=>by
       have hm:p.2∈(Op.buildSlice t len parts).operands :=by simp only [Op.operands,List.mem_toArray,AX];exact ⟨p,hp,rfl⟩
       rw [eR p.2,←hev p.2 hm];exact hr p.2 hm
      obtain ⟨u,vs,el,cU,hu⟩:=w1b hv hpr (cS.hold w.heap.size (Ao _));have:(parts.map fun (i,x)=>(i,a.eval x))=(parts.toList.map fun p=>(p.1,a.eval p.2)).toArray :=by apply Array.ext';simp
      unfold Oper.wp;have hrun':(execOp a.eval ⟨dst,.buildSlice t len parts,type,pos,after,guard⟩).run P w=.ok (.value u) {w with heap:=w.heap.push (.cells vs el)}:=by simp [execOp,this,cU]
      rw [hrun'];exact hK _ u _ (fun d hd=>by rw [eQ d hd];exact hu) (cS.froze vs el) (fun _=>rfl) fun floor m=>Ev.froze cS floor m vs el
    ·cases h
   ·rename_i st1 hw;obtain ⟨w1,w2,w3⟩:=Wx hw;obtain ⟨p1,p2,p3,p4⟩:=Wd h;have eQ: ∀d,dst=some d→st'.tmp d=.tup []:=fun d hd=>by
     rcases p4 with ⟨e,_⟩ | ⟨d',e,_,he⟩
     ·rw [hd] at e;cases e
     ·rw [hd] at e;obtain rfl:=Af e;show T.get .undef st'.env d=_;rw [he,T.get_set,AB rfl]
    have hi1:Xd cx.floor st st1:=Xd.same w1 w2 fun ho=>(w3 ho).1;have hi2:Xd cx.floor st1 st':=Xd.same p1 p2 fun ho=>by rw [←p3];exact ho
    refine ⟨hi1.trans hi2,fun _=>⟨p1.trans w1,p2.trans w2⟩,(fun _ _ k=>by rw [hk] at k;cases k),(fun _ k=>by rw [hk] at k;cases k),(fun _ k=>by rw [hk] at k;rcases k with k | k <;> cases k),fun d hd=> ?_,fun ho t ht=> ?_,(fun _ k=>by rcases k with k | k <;> rw [hk] at k <;> cases k),(fun _ k=>by rcases k with k | k <;> rw [hk] at k <;> cases k),fun ho _ ρ a w ev mem next hsz hev hgr hr cS K Q hK=> ?_⟩
    ·rcases p4 with ⟨e,_⟩ | ⟨d',e,hlt,_⟩
     ·simp only at hd;rw [hd] at e;cases e
     ·simp only at hd;rw [hd] at e;obtain rfl:=Af e;exact hlt
    ·have ho1:st1.ob=true:=by rw [←p3];exact ho
     rw [←(w3 ho1).2 t];show T.get .undef st'.env t=T.get .undef st1.env t;rcases p4 with ⟨_,he⟩ | ⟨d,e,_,he⟩
     ·rw [he]
     ·rw [he,T.get_set,Aw (by intro htd;subst htd;exact ht e)]
    ·have ho1:st1.ob=true:=by rw [←p3];exact ho
     rw [Ui hw ho1 hsz hgr,Aw Bool.false_ne_true];exact hK ρ undef w (fun d hd=>by rw [eQ d hd];exact .tup [] #[] rfl fun i h1 _=>by simp at h1) cS (fun _=>rfl) fun floor m=>Ev.refl _ _ _ _ _ cS.dom
  | _=>cases hz
end
section
variable {ops:Array Oper}
def z9d (ops:Array Oper) (S:Nat→Bool):Prop:= ∀j o,ops[j]? =some o→S j=true→ ∀e∈o.after.toList,Region.binds .any e=true→S e.on=true
def x2i (S:Nat→Bool) (o:Oper):Prop:= ∀e∈o.after.toList,Region.binds .any e=true→S e.on=true
def y1n (ops:Array Oper) (i:Nat) (o:Oper):Prop:= ∀S,z9d ops S→x2i S o→S i=true
theorem x4n (acc:List Nat) (i:Nat): ∀(es:List Edge) (s:Nat),(es.foldl (fun s e=>bif Region.binds .any e then s||| (2 ^ e.on)||| acc.getD e.on 0 else s) s).testBit i=true→
  s.testBit i=true∨ ∃e∈es,Region.binds .any e=true∧(e.on=i∨(acc.getD e.on 0).testBit i=true)
 | [],s,h=>.inl h
 | e::es,s,h=>by
  simp only [List.foldl_cons] at h;rcases x4n acc i es _ h with h | ⟨e',he',h1,h2⟩
  ·cases hb:Region.binds .any e with
   | false=>rw [hb] at h;exact .inl h
   | true=>
    rw [hb,Ab,Nat.testBit_or,Nat.testBit_or,Bo,Bo] at h;rcases h with (h | h) | h
    ·exact .inl h
    ·rw [Nat.testBit_two_pow] at h;exact .inr ⟨e,by simp,hb,.inl (by simpa using h)⟩
    ·exact .inr ⟨e,by simp,hb,.inr h⟩
  ·exact .inr ⟨e',by simp [he'],h1,h2⟩
theorem x4w (eL: ∀(j:Nat) o,ops[j]? =some o→ ∀e∈o.after.toList,Region.binds .any e=true→e.on<j): ∀(l:List Oper) (acc:List Nat),acc.length+l.length=ops.size→(∀k,l[k]? =ops[acc.length+k]?)→
  (∀k o,k<acc.length→ops[k]? =some o→ ∀i,(acc.getD k 0).testBit i=true→i<k∧y1n ops i o)→
  ∀k o,ops[k]? =some o→ ∀i,((w8f l acc).getD k 0).testBit i=true→i<k∧y1n ops i o
 | [],acc,cT,_,eW,k,o,ho,i,h=>by have hk:k<ops.size:=(AM.1 ho).1;simp at cT;exact eW k o (by omega) ho i h
 | x::l,acc,cT,hl,eW,k,o,ho,i,h=>by
  unfold w8f at h;refine x4w eL l (acc++[x.after.toList.foldl (fun s e=>bif Region.binds .any e then s||| (2 ^ e.on)||| acc.getD e.on 0 else s) 0]) (by simp at cT ⊢;omega) (fun k=>by
   have:=hl (k+1)
   simpa [AD,Nat.add_comm 1 k] using this) (fun k' o' hk' ho' i' hi'=> ?_) k o ho i h
  by_cases hlt:k'<acc.length
  ·refine eW k' o' hlt ho' i' ?_;rw [List.getD,Bv hlt] at hi';exact hi'
  ·have hk2:k'=acc.length:=by simp at hk';omega
   subst hk2;have hx:ops[acc.length]? =some x:=by simpa using (hl 0).symm
   rw [hx] at ho';obtain rfl:=Af ho';have hg:(acc++[x.after.toList.foldl (fun s e=>bif Region.binds .any e then s||| (2 ^ e.on)||| acc.getD e.on 0 else s) 0]).getD acc.length 0=x.after.toList.foldl (fun s e=>bif Region.binds .any e then s||| (2 ^ e.on)||| acc.getD e.on 0 else s) 0:=by simp [List.getD]
   rw [hg] at hi';rcases x4n acc i' _ _ hi' with h0 | ⟨e,he,hb,h1⟩
   ·simp at h0
   ·have hlt':=eL _ _ hx e he hb;rcases h1 with rfl | h1
    ·exact ⟨hlt',fun S _ hr=>hr e he hb⟩
    ·have ho2:ops[e.on]? =some (ops[e.on]'(by simp at cT;omega)):=(by simp);obtain ⟨q1,q2⟩:=eW e.on _ hlt' ho2 i' h1;exact ⟨by omega,fun S hc hr=>q2 S hc fun e' he' hb'=>hc e.on _ ho2 (hr e he hb) e' he' hb'⟩
theorem x1i {z:Nat} {op:Op} {k:Kind} (hk:k≠ .lit) (hb:k≠ .birth):Xy z op=k↔Xw op=k∧y7c z op=false∧isBirth z op=false:=by
 cases hz:y7c z op with
 | false=>
  cases hz2:isBirth z op with
  | false=>rw [y5d hz hz2];simp
  | true=>
   have:Xy z op=.birth :=by unfold Xy;rw [hz,hz2];rfl
   rw [this];exact ⟨fun h=>absurd h.symm hb,fun h=>by cases h.2.2⟩
 | true=>
  have:Xy z op=.lit :=by unfold Xy;rw [hz];rfl
  rw [this];exact ⟨fun h=>absurd h.symm hk,fun h=>by cases h.2.1⟩
theorem x9g {z:Nat} {op:Op} (h:y7c z op=true):Xw op=.chain :=by
 cases op <;> first | rfl | (cases h;done)
theorem x1j {z:Nat} {op:Op} (h:isBirth z op=true):Xw op=.chain :=by
 cases op <;> first | rfl | (cases h;done)
theorem x4d {z:Nat} {op:Op} {k:Kind} (hk:k≠ .lit) (hb:k≠ .birth) (hc:k≠ .chain):Xy z op=k↔Xw op=k:=by
 rw [x1i hk hb];constructor
 ·exact fun h=>h.1
 ·intro h;refine ⟨h,?_,?_⟩
  ·cases hz:y7c z op with
   | false=>rfl
   | true=>exact absurd (h.symm.trans (x9g hz)) hc
  ·cases hz:isBirth z op with
   | false=>rfl
   | true=>exact absurd (h.symm.trans (x1j hz)) hc
theorem z3e {z:Nat} {op:Op}:Xy z op=.alloc ↔Xw op=.alloc :=x4d (fun h=>by cases h) (fun h=>by cases h) fun h=>by cases h
theorem y9e {z:Nat} {op:Op}:Xy z op=.read ↔Xw op=.read :=x4d (fun h=>by cases h) (fun h=>by cases h) fun h=>by cases h
theorem y5e {z:Nat} {op:Op} (h:Xy z op=.birth):isBirth z op=true:=by
 cases hz:isBirth z op with
 | true=>rfl
 | false=>
  cases hl:y7c z op with
  | true=>unfold Xy at h;rw [hl] at h;cases h
  | false=>rw [y5d hl hz] at h;exact absurd h (y1e _)
structure v6g (z:Nat) (ops:Array Oper):Prop where
 ord: ∀(j:Nat) o,ops[j]? =some o→ ∀e∈o.after.toList,Region.binds .any e=true→e.on<j
 guard: ∀(j:Nat) o,ops[j]? =some o→(Xy z o.op=.alloc ∨Xy z o.op=.birth)→o.guard=none
 bits: ∀(j:Nat) o,ops[j]? =some o→ ∀i,((w8f ops.toList []).getD j 0).testBit i=true→i<j∧y1n ops i o
 pair: ∀(i j:Nat) p o,i<j→ops[i]? =some p→ops[j]? =some o→y1n ops i o∨(p.apart ops o=true∧x9a (Xy z p.op) (Xy z o.op)=true∧(Xy z o.op=.read →z4q ops i=true)∧(Xy z p.op=.read →z4q ops j=true))
 dst: ∀(i j:Nat) p o d,i<j→ops[i]? =some p→ops[j]? =some o→p.dst=some d→o.dst≠some d
 alloc: ∀(i j:Nat) p o,i<j→ops[i]? =some p→ops[j]? =some o→Xy z o.op=.alloc →p.apart ops o=true
 birth: ∀(i j:Nat) p o,i<j→ops[i]? =some p→ops[j]? =some o→Xy z o.op=.birth → ¬(Xy z p.op=.chain ∨Xy z p.op=.call)
theorem z6y {z:Nat} (h:y5v z ops=true):v6g z ops:=by
 have hj: ∀(j:Nat) o,ops[j]? =some o→(o.after.toList.all (fun e=> !Region.binds .any e||Nat.ble (e.on+1) j)=true∧(!(Xw o.op == .alloc ||isBirth z o.op)||o.guard.isNone)=true)∧ ∀(i:Nat) p,i<j→ops[i]? =some p→y8p z ops i j p o=true:=by intro j o ho;have hlt:j<ops.size:=(AM.1 ho).1;have:=Au.1 h j (A2.2 hlt);rw [ho] at this;simp only [Ac] at this;refine ⟨this.1,fun i p hi hp=> ?_⟩;have:=Au.1 this.2 i (A2.2 hi);rwa [hp] at this
 have ord: ∀(j:Nat) o,ops[j]? =some o→ ∀e∈o.after.toList,Region.binds .any e=true→e.on<j:=by intro j o ho e he hb;have:=Au.1 (hj j o ho).1.1 e he;rw [hb] at this;exact Ak (by simpa using this)
 have bits:=x4w ord ops.toList [] (by simp) (fun k=>by simp) (fun k o hk=>by simp at hk);refine ⟨ord,fun j o ho hk=> ?_,fun j o ho i hb=>bits j o ho i hb,fun i j p o hij hp ho=> ?_,fun i j p o d hij hp ho hd=> ?_,fun i j p o hij hp ho hk=> ?_,fun i j p o hij hp ho hk hc=> ?_⟩
 ·have:=(hj j o ho).1.2;rcases hk with hk | hk
  ·rw [z3e.1 hk] at this
   simpa using this
  ·rw [y5e hk] at this
   simpa using this
 ·have hpo:=(hj j o ho).2 i p hij hp;unfold y8p at hpo;simp only [Ac,Bo] at hpo;cases hb:((w8f ops.toList []).getD j 0).testBit i with
  | true=>exact .inl (bits j o ho i hb).2
  | false=>
   right;rcases hpo.1.1.1 with h1 | ⟨h1,h2⟩
   ·rw [hb] at h1;cases h1
   ·have hi:i<ops.size:=(AM.1 hp).1;have hjl:j<ops.size:=(AM.1 ho).1;refine ⟨h1,h2,fun hr=> ?_,fun hr=> ?_⟩
    ·unfold z4q;rw [List.any_eq_true];refine ⟨j,A2.2 hjl,?_⟩;rw [ho,Option.any_some,y9e.1 hr,hb];have:Nat.ble (i+1) j=true:=Bh hij;rw [this];simp
    ·unfold z4q;rw [List.any_eq_true];refine ⟨i,A2.2 hi,?_⟩;rw [hp,Option.any_some,y9e.1 hr,hb];have:Nat.ble (i+1) j=true:=Bh hij;rw [this];simp
 ·have hpo:=(hj j o ho).2 i p hij hp;unfold y8p at hpo;simp only [Ac] at hpo;have:=hpo.1.1.2;rw [hd] at this;intro e;rw [e] at this;simp at this
 ·have hpo:=(hj j o ho).2 i p hij hp;unfold y8p at hpo;simp only [Ac] at hpo;have:=hpo.1.2;rw [z3e.1 hk] at this
  simpa using this
 ·have hpo:=(hj j o ho).2 i p hij hp;unfold y8p at hpo;simp only [Ac] at hpo;have:=hpo.2;rw [y5e hk] at this;rcases hc with hc | hc <;> rw [hc] at this <;> cases this
theorem Um {z:Nat} {i:Nat} {o:Oper} (ho:ops[i]? =some o):isAlloc ops i=true↔Xy z o.op=.alloc :=by rw [z3e];unfold isAlloc;rw [ho,Option.any_some];simp
theorem z8t (i:Nat):i∈Yv ops↔i<ops.size:=by unfold Yv;simp only [AF,Bg,A2];cases isAlloc ops i <;> simp
theorem Yr :(Yv ops).length =ops.size:=by
 unfold Yv;rw [Ar,←List.countP_eq_length_filter,←List.countP_eq_length_filter];have:=List.length_eq_countP_add_countP (isAlloc ops) (l:=List.range ops.size);simp only [Cc] at this;have e:(fun i=> !isAlloc ops i)=(fun i=>decide (¬isAlloc ops i=true)):=by funext i;cases isAlloc ops i <;> rfl
 rw [e];omega
def Ord (ops:Array Oper) (i j:Nat):Prop:=(isAlloc ops i=true∧isAlloc ops j=false)∨(isAlloc ops i=isAlloc ops j∧i<j)
theorem z8s :(Yv ops).Pairwise (Ord ops):=by
 unfold Yv;rw [BZ];have hr:(List.range ops.size).Pairwise (· < ·):=List.pairwise_lt_range;refine ⟨?_,?_,?_⟩
 ·refine ((hr.filter _).imp_of_mem fun {a b} ha hb h=> ?_);have h1:=(Bg.1 ha).2;have h2:=(Bg.1 hb).2;exact .inr ⟨h1.trans h2.symm,h⟩
 ·refine ((hr.filter _).imp_of_mem fun {a b} ha hb h=> ?_);have h1:=(Bg.1 ha).2;have h2:=(Bg.1 hb).2;refine .inr ⟨?_,h⟩;cases e1:isAlloc ops a <;> cases e2:isAlloc ops b <;> simp_all
 ·intro a ha b hb;have h1:=(Bg.1 ha).2;have h2:=(Bg.1 hb).2;exact .inl ⟨h1,by simpa using h2⟩
theorem x1o {k1 k2:Nat} (h:k1<k2) (h2:k2<(Yv ops).length):Ord ops ((Yv ops)[k1]'(by omega)) (Yv ops)[k2]:=
 Bp.1 z8s k1 k2 (by omega) h2 h
end
theorem x3r {P:Program} {S:Specs} {R:Runner} {ops:Array Oper} {cx:Ctx}: ∀(l:List (Bool×Oper)) (st st':St),y8r P S R ops cx l st=some st'→
  ∃f:Nat→St,f 0=st∧f l.length=st'∧ ∀(k:Nat) (h:k<l.length),y6w P S R ops cx l[k] (f k)=some (f (k+1))
 | [],st,st',h=>by have h:some st=some st':=h;obtain rfl:=Af h;exact ⟨fun _=>st,rfl,rfl,fun k h=>by simp at h⟩
 | x::l,st,st',h=>by
  rw [z6p,BD] at h;obtain ⟨st1,h1,h2⟩:=h;obtain ⟨f,f0,fn,fs⟩:=x3r l st1 st' h2;refine ⟨fun k=>match k with | 0=>st | k+1=>f k,rfl,fn,fun k hk=> ?_⟩;cases k with
  | zero=>simpa [f0] using h1
  | succ k=>simpa using fs k (by simpa using hk)
def x5l (ops:Array Oper) (x y:Foot):Prop:=clash x.2.1 y.2.2=true∨clash x.2.2 y.2.1=true→ordered ops x.1 y.1=true
theorem x9s {ops:Array Oper} {x y:Foot} (h:w3m ops x y=true):x5l ops x y:=by
 intro hc;unfold w3m at h;simp only [Bo,B0,BG] at h;rcases h with ⟨h1,h2⟩ | h
 ·rcases hc with hc | hc
  ·rw [h1] at hc;cases hc
  ·rw [h2] at hc;cases hc
 ·exact h
theorem z2y {z:Nat} {P:Program} {S:Specs} {R:Runner} {ops:Array Oper} {cx:Ctx}: ∀(l:List (Nat×Bool×Oper)) (acc:List Foot) (st st':St),z9q z P S R ops cx l acc st=some st'→
  ∃f:Nat→St,f 0=st∧f l.length=st'∧(∀(k:Nat) (h:k<l.length),x6c z P S R ops cx l[k].2 (f k)=some (f (k+1)))∧
   (∀(k:Nat) (h:k<l.length),∀y∈acc,x5l ops (z3u S l[k] (f k).eval) y∨lateF z ops l[k] (f k).eval (f k).mem y=true)∧
   ∀(q k:Nat) (hq:q<k) (h:k<l.length),x5l ops (z3u S l[k] (f k).eval) (z3u S (l[q]'(by omega)) (f q).eval)∨lateF z ops l[k] (f k).eval (f k).mem (z3u S (l[q]'(by omega)) (f q).eval)=true
 | [],acc,st,st',h=>by have h:some st=some st':=h;obtain rfl:=Af h;exact ⟨fun _=>st,rfl,rfl,fun k h=>by simp at h,fun k h=>by simp at h,fun q k _ h=>by simp at h⟩
 | x ::l,acc,st,st',h=>by
  have h:(bif acc.all (fun y=>w3m ops (z3u S x st.eval) y||lateF z ops x st.eval st.mem y) then
    match x6c z P S R ops cx x.2 st with
    | some st'=>z9q z P S R ops cx l (z3u S x st.eval::acc) st'
    | none=>none
   else none)=some st':=h
  obtain ⟨eW,h⟩:=Zr h;split at h
  ·rename_i st1 h1;obtain ⟨f,f0,fn,fs,fa,fp⟩:=z2y l _ st1 st' h;refine ⟨fun k=>match k with | 0=>st | k+1=>f k,rfl,fn,fun k hk=> ?_,fun k hk y hy=> ?_,fun q k hqk hk=> ?_⟩
   ·cases k with
    | zero=>simpa [f0] using h1
    | succ k=>simpa using fs k (by simpa using hk)
   ·cases k with
    | zero=>have:=Au.1 eW y hy;rw [Bo] at this;exact this.imp x9s id
    | succ k=>simpa using fa k (by simpa using hk) y (by simp [hy])
   ·cases k with
    | zero=>omega
    | succ k=>
     cases q with
     | zero=>simpa using fa k (by simpa using hk) (z3u S x st.eval) (by simp)
     | succ q=>simpa using fp q k (by omega) (by simpa using hk)
  ·cases h
theorem x2o {S:Specs} {op:Op} (h:Xw op=.chain) (ev:Operand→AVal):wrC S op ev=x2j op ev:=by
 cases op with
 | call c=>
  obtain ⟨callee,args,argTypes⟩:=c;cases callee with
  | value f=>cases h
  | _=>rfl
 | _=>rfl
theorem z3k (p q:Nat→Bool) (i:Nat): ∀(n:Nat),(∀k,k≠i→q k=p k)→p i=true→q i=false→i<n→(List.range n).countP q+1=(List.range n).countP p
 | 0,_,_,_,h=>absurd h (AO _)
 | n+1,hpq,hp,hq,h=>by
  rw [Cn,List.countP_append,List.countP_append];by_cases hi:i<n
  ·have:=z3k p q i n hpq hp hq hi;have e:q n=p n:=hpq n (by omega);simp only [List.countP_cons,List.countP_nil,e];omega
  ·have hin:i=n:=by omega
   subst hin;have e:(List.range i).countP q=(List.range i).countP p:=List.countP_congr fun k hk=>by rw [hpq k (by have:=A2.1 hk;omega)]
   simp [e,hp,hq]
section
variable {P:Program}
theorem Rel.unborn {ρ:Rho} {mem:Mem} {next:Nat} {w:World} (h:Rel ρ mem next w) (o:Option ABlk):Rel ρ (Xt mem next o) (next+1) w:=by
 have ne: ∀b l,ρ b=some l→b≠next:=fun b l e=>by have:=h.dom b l e;omega
 refine ⟨fun b l e=>by have:=h.dom b l e;omega,fun b b' l l' e e' he hs hs'=> ?_,fun b l ab e hm=> ?_,h.old,fun b l e hs=>h.sep b l e (by rwa [Zw _ _ (ne b l e)] at hs),h.real,fun b hb=>by rw [Zw _ _ (by omega)];exact h.bd b (by omega),fun j l e=>BO (h.ldom j l e)⟩
 ·rw [Zw _ _ (ne b l e)] at hs;rw [Zw _ _ (ne b' l' e')] at hs';exact h.inj b b' l l' e e' he hs hs'
 ·rw [Zw _ _ (ne b l e)] at hm;exact h.blk b l ab e hm
theorem Rel.birth {ρ:Rho} {mem:Mem} {next:Nat} {w:World} (h:Rel ρ mem next w) {b:Nat} {cs:List AVal} {ty:TypeId} (hb:b<next) (hn:ρ b=none) (hm:Yf mem b=some ⟨cs,ty,none⟩) {vs:Array Value} (el:TypeId) (hv:Vr ρ cs vs):
  Rel (Vd ρ b ⟨w.heap.size,0,cs.length,vs.size⟩) mem next {w with heap:=w.heap.push (.cells vs el)}:=by
 have hle:=z0h (l:=⟨w.heap.size,0,cs.length,vs.size⟩) hn;have dE: ∀c l,Vd ρ b ⟨w.heap.size,0,cs.length,vs.size⟩ c=some l→(c=b∧l=⟨w.heap.size,0,cs.length,vs.size⟩)∨(c≠b∧ρ c=some l):=fun c l e=>by
  rw [Vi] at e;by_cases hc:c=b
  ·rw [AB hc] at e;exact .inl ⟨hc,(Af e).symm⟩
  ·rw [Aw hc] at e;exact .inr ⟨hc,e⟩
 refine ⟨fun c l e=> ?_,fun c c' l l' e e' hbl hs hs'=> ?_,fun c l ab e hc=> ?_,fun k o e=> ?_,fun c l e=> ?_,fun c l e=> ?_,h.bd,h.ldom⟩
 ·rcases dE c l e with ⟨rfl,_⟩ | ⟨_,e⟩
  ·exact hb
  ·exact h.dom c l e
 ·rcases dE c l e with ⟨hc,hl⟩ | ⟨hc,e2⟩ <;> rcases dE c' l' e' with ⟨hc',hl'⟩ | ⟨hc',e2'⟩
  ·rw [hc,hc']
  ·have:=h.real c' l' e2';rw [hl] at hbl;simp at hbl;omega
  ·have:=h.real c l e2;rw [hl'] at hbl;simp at hbl;omega
  ·exact h.inj c c' l l' e2 e2' hbl hs hs'
 ·rcases dE c l e with ⟨rfl,rfl⟩ | ⟨_,e⟩
  ·rw [hm] at hc;obtain rfl:=Af hc;have h1:=hv.1;refine ⟨rfl,by simp only;omega,(fun A e=>by cases e),vs,el,by simp,by simp,fun i hi=> ?_⟩;have h2:i<vs.size:=by simp only at hi;omega
   exact ⟨vs[i],by simp [Bk h2],(hv.2 i hi h2).mono hle⟩
  ·refine (h.blk c l ab e hc).world hle ?_;have:=h.real c l e;simp [Bm,A6 this]
 ·have hk:=h.old k o e;have:k<w.heap.size:=(AM.1 hk).1;simp only [Bm,A6 this,Cr];exact hk
 ·intro hs;rcases dE c l e with ⟨rfl,rfl⟩ | ⟨_,e⟩
  ·exact h.hold _ (Ao _)
  ·exact h.sep c l e hs
 ·rcases dE c l e with ⟨rfl,rfl⟩ | ⟨_,e⟩
  ·simp
  ·have:=h.real c l e;simp;omega
structure Reg (S:Specs) (z:Nat) (P:Program) (ops:Array Oper) (cx:Ctx) (st:St) (f:Nat→St):Prop where
 chk:v6g z ops
 f0:f 0=st
 hcx:cx.floor≤st.next
 ob: ∀k,k≤ops.size→(f k).ob =true
 step: ∀(k:Nat) (h:k<(Yv ops).length),u1w S z P ops cx (z4q ops (Yv ops)[k],ops.getD (Yv ops)[k] default) (f k) (f (k+1))
 foot: ∀(q k:Nat) (hq:q<k) (h:k<(Yv ops).length),x5l ops (z3u S ((Yv ops)[k],z4q ops (Yv ops)[k],ops.getD (Yv ops)[k] default) (f k).eval) (z3u S ((Yv ops)[q],z4q ops (Yv ops)[q],ops.getD (Yv ops)[q] default) (f q).eval)∨
  lateF z ops ((Yv ops)[k],z4q ops (Yv ops)[k],ops.getD (Yv ops)[k] default) (f k).eval (f k).mem (z3u S ((Yv ops)[q],z4q ops (Yv ops)[q],ops.getD (Yv ops)[q] default) (f q).eval)=true
variable {Sp:Specs} {z:Nat} {ops:Array Oper} {cx:Ctx} {st:St} {f:Nat→St}
def at_ (ops:Array Oper) (k:Nat):Nat:=(Yv ops).getD k ops.size
theorem u1u {k:Nat} (h:k<ops.size):at_ ops k<ops.size:=by
 have hl:k<(Yv ops).length :=by rw [Yr];exact h
 have:at_ ops k=(Yv ops)[k]:=by simp [at_,hl]
 rw [this];exact (z8t _).1 (AR hl)
theorem z1f {k1 k2:Nat} (h:k1<k2) (h2:k2<ops.size):Ord ops (at_ ops k1) (at_ ops k2):=by
 have hl2:k2<(Yv ops).length :=by rw [Yr];exact h2
 have hl1:k1<(Yv ops).length :=by omega
 have:=x1o h hl2
 simpa [at_,hl1,hl2] using this
theorem j4v {i:Nat} (h:i<ops.size): ∃k,k<ops.size∧at_ ops k=i:=by obtain ⟨k,hk,e⟩:=AZ ((z8t (ops:=ops) i).2 h);exact ⟨k,by rw [Yr] at hk;exact hk,by simp [at_,hk,e]⟩
theorem Reg.step' (g:Reg Sp z P ops cx st f) {k:Nat} (h:k<ops.size): ∃o,ops[at_ ops k]? =some o∧u1w Sp z P ops cx (z4q ops (at_ ops k),o) (f k) (f (k+1)):=by
 have hl:k<(Yv ops).length :=by rw [Yr];exact h
 have e:at_ ops k=(Yv ops)[k]:=by simp [at_,hl]
 have hlt:=u1u h;refine ⟨ops[at_ ops k],by simp [hlt],?_⟩;have:=g.step k hl;rw [←e] at this;have hd:ops.getD (at_ ops k) default=ops[at_ ops k]:=by simp [hlt]
 rw [hd] at this;exact this
theorem Reg.foot' (g:Reg Sp z P ops cx st f) {q k:Nat} (hq:q<k) (h:k<ops.size) {o x:Oper} (ho:ops[at_ ops k]? =some o) (hx:ops[at_ ops q]? =some x):
  x5l ops (at_ ops k,x7x o.op (f k).eval,wrC Sp o.op (f k).eval) (at_ ops q,x7x x.op (f q).eval,wrC Sp x.op (f q).eval)∨lateF z ops (at_ ops k,z4q ops (at_ ops k),o) (f k).eval (f k).mem (at_ ops q,x7x x.op (f q).eval,wrC Sp x.op (f q).eval)=true:=by
 have hl:k<(Yv ops).length :=by rw [Yr];exact h
 have hl2:q<(Yv ops).length :=by omega
 have e:at_ ops k=(Yv ops)[k]:=by simp [at_,hl]
 have e2:at_ ops q=(Yv ops)[q]:=by simp [at_,hl2]
 have:=g.foot q k hq hl;rw [←e,←e2] at this;have hd:ops.getD (at_ ops k) default=o:=by simp [ho]
 have hd2:ops.getD (at_ ops q) default=x:=by simp [hx]
 rw [hd,hd2] at this;exact this
theorem Reg.next_le (g:Reg Sp z P ops cx st f): ∀{a b:Nat},a≤b→b≤ops.size→(f a).next ≤(f b).next :=by
 intro a b hab hb
 induction b with
 | zero => have:a=0:=by omega
           subst this;exact Ao _
 | succ b ih=>
  by_cases e:a=b+1
  ·subst e;exact Ao _
  ·obtain ⟨o,_,s⟩:=g.step' (k:=b) (by omega);exact AL (ih (by omega) (by omega)) s.inv.nxt
theorem Reg.bd (g:Reg Sp z P ops cx st f) (h0: ∀b,st.next≤b→Yf st.mem b=none): ∀{k:Nat},k≤ops.size→ ∀b,(f k).next ≤b→Yf (f k).mem b=none:=by
 intro k hk
 induction k with
 | zero=>rw [g.f0];exact h0
 | succ k ih=>obtain ⟨o,_,s⟩:=g.step' (k:=k) (by omega);exact s.inv.bd (ih (by omega))
theorem Reg.slot_stays (g:Reg Sp z P ops cx st f) {t:Tmp}: ∀{a b:Nat},a≤b→b≤ops.size→(∀k o,a≤k→k<b→ops[at_ ops k]? =some o→o.dst≠some t)→(f b).tmp t=(f a).tmp t:=by
 intro a b hab hb hno
 induction b with
 | zero => have:a=0:=by omega
           subst this;rfl
 | succ b ih=>
  by_cases e:a=b+1
  ·subst e;rfl
  ·obtain ⟨o,ho,s⟩:=g.step' (k:=b) (by omega);rw [s.other (g.ob _ hb) t (hno b o (by omega) (by omega) ho)];exact ih (by omega) (by omega) fun k o h1 h2=>hno k o h1 (by omega)
def Qy (z:Nat) (o:Oper):Prop:=Xy z o.op=.chain ∨Xy z o.op=.call
def x8d (z:Nat) (o:Oper):Prop:=Xy z o.op=.pure ∨Xy z o.op=.lit
def z8j (z:Nat) (o:Oper):Prop:=Xy z o.op=.alloc ∨Xy z o.op=.birth
theorem x9b (z:Nat) (o:Oper):x8d z o∨Xy z o.op=.read ∨z8j z o∨Qy z o:=by unfold Qy x8d z8j;cases Xy z o.op <;> simp
theorem Reg.mem_stays (g:Reg Sp z P ops cx st f): ∀{a b:Nat},a≤b→b≤ops.size→(∀k o,a≤k→k<b→ops[at_ ops k]? =some o→x8d z o∨Xy z o.op=.read)→(f b).mem =(f a).mem ∧(f b).next =(f a).next :=by
 intro a b hab hb hno
 induction b with
 | zero => have:a=0:=by omega
           subst this;exact ⟨rfl,rfl⟩
 | succ b ih=>
  by_cases e:a=b+1
  ·subst e;exact ⟨rfl,rfl⟩
  ·obtain ⟨o,ho,s⟩:=g.step' (k:=b) (by omega);obtain ⟨e1,e2⟩:=s.stay (by rcases hno b o (by omega) (by omega) ho with (k | k) | k <;> simp [k]);obtain ⟨e3,e4⟩:=ih (by omega) (by omega) fun k o h1 h2=>hno k o h1 (by omega);exact ⟨e1.trans e3,e2.trans e4⟩
theorem Reg.blk_stays (g:Reg Sp z P ops cx st f) {x:Nat}: ∀{a b:Nat},a≤b→b≤ops.size→x<(f a).next →
  (∀k o,a≤k→k<b→ops[at_ ops k]? =some o→x8d z o∨Xy z o.op=.read ∨(Xy z o.op=.call ∧z4q ops (at_ ops k)=true∧wrC Sp o.op (f k).eval ≠some x)∨(Xy z o.op=.chain ∧x2j o.op (f k).eval ≠some x)∨z8j z o)→Yf (f b).mem x=Yf (f a).mem x:=by
 intro a b hab hb hx hno
 induction b with
 | zero => have:a=0:=by omega
           subst this;rfl
 | succ b ih=>
  by_cases e:a=b+1
  ·subst e;rfl
  ·obtain ⟨o,ho,s⟩:=g.step' (k:=b) (by omega);have ih:=ih (by omega) (by omega) fun k o h1 h2=>hno k o h1 (by omega);rw [←ih];rcases hno b o (by omega) (by omega) ho with h1 | h1 | ⟨h1,h2,h3⟩ | ⟨h1,h2⟩ | h1
   ·rw [(s.stay (by rcases h1 with k | k <;> simp [k])).1]
   ·rw [(s.stay (.inr (.inl h1))).1]
   ·exact s.lift (g.ob _ hb) h2 h1 x (Ba hx (g.next_le (by omega) (by omega))) h3
   ·exact s.foot (g.ob _ hb) h1 x (Ba hx (g.next_le (by omega) (by omega))) h2
   ·obtain ⟨cells,ty,e1,_,_⟩:=s.fresh (g.ob _ hb) h1 (g.chk.guard _ o ho h1);have:=Ba hx (g.next_le (a:=a) (b:=b) (by omega) (by omega));rw [e1,Zw _ _ (by omega)]
structure Inv (z:Nat) (P:Program) (D:List Deferred) (ops:Array Oper) (cx:Ctx) (st:St) (f:Nat→St) (ρ0:Rho) (w0:World) (S:Nat→Bool) (p:Nat) (ρ:Rho) (a:Act) (w:World):Prop where
 closed:z9d ops S
 defers:a.defers=D
 tsz:a.tmps.size=cx.n
 done: ∀k o d,k<ops.size→ops[at_ ops k]? =some o→S (at_ ops k)=true→o.dst=some d→Yy ρ ((f (k+1)).tmp d) (a.tmps.getD d undef)
 undone: ∀t,(∀i o,ops[i]? =some o→S i=true→o.dst≠some t)→Yy ρ (st.tmp t) (a.tmps.getD t undef)
 ple:p≤ops.size
 past: ∀k o,k<ops.size→ops[at_ ops k]? =some o→z8j z o→k<p
 chain: ∀k o,k<ops.size→ops[at_ ops k]? =some o→Qy z o→(S (at_ ops k)=true↔k<p)
 rel:Rel ρ (f p).mem (f p).next w
 ev:Ev ρ0 ρ cx.floor st.mem st.next (f p).mem (f p).next w0 w
 late: ∀k q o x b ab,k<q→q<p→q<ops.size→ops[at_ ops k]? =some o→ops[at_ ops q]? =some x→S (at_ ops k)=false→Qy z x→z1l z ops (at_ ops k) (at_ ops q)=true→w0v x.op (f q).eval (f q).mem =some b→Yf (f q).mem b=some ab→Rel ρ (Xt .leaf b (some ab)) (f p).next w
 allocs: ∀k o,k<ops.size→ops[at_ ops k]? =some o→z8j z o→S (at_ ops k)=false→st.next≤(f k).next ∧(f k).next <(f p).next ∧ρ (f k).next =none∧Yf (f p).mem (f k).next =Yf (f (k+1)).mem (f k).next
theorem y4y {o:Oper} {t:Tmp} (h:Operand.tmp t∈o.op.operands):t∈o.looksAt ops:=by unfold Oper.looksAt;rw [AF];left;rw [List.mem_filterMap];exact ⟨.tmp t,A7.2 h,rfl⟩
theorem x1e {o:Oper} {d:Tmp} (h:Ug ops o=some d):d∈o.looksAt ops:=by
 unfold Oper.looksAt;rw [AF];right;unfold Ug at h;cases hg:o.guard with
 | none=>rw [hg] at h;cases h
 | some g=>obtain ⟨j,want⟩:=g;rw [hg] at h;simp only [Option.bind_some] at h;simp [h]
theorem w0w (g:Reg Sp z P ops cx st f) {i:Nat} {o:Oper} (ho:ops[i]? =some o) (hk:Xy z o.op=.alloc):o.looksAt ops=[]:=by
 unfold Oper.looksAt;rw [g.chk.guard i o ho (.inl hk)];rw [z3e] at hk;obtain ⟨dst,op,type,pos,after,guard⟩:=o;simp only at hk ⊢;cases op with
 | alloc t=>rfl
 | call c=>
  obtain ⟨callee,args,argTypes⟩:=c;cases callee with
  | builtin b=>cases b <;> cases hk
  | value f=>cases hk
  | invoke r m=>cases hk
 | _=>cases hk
section
variable {D:List Deferred} {ρ0:Rho} {w0:World} {S:Nat→Bool} {p:Nat} {ρ:Rho} {a:Act} {w:World}
theorem x1p (g:Reg Sp z P ops cx st f) {i j:Nat} {x y:Oper} {d:Tmp} (hi:ops[i]? =some x) (hj:ops[j]? =some y) (hx:x.dst=some d) (hy:y.dst=some d):i=j:=by
 rcases BC i j with h | h | h
 ·exact absurd hy (g.chk.dst i j x y d h hi hj hx)
 ·exact h
 ·exact absurd hx (g.chk.dst j i y x d h hj hi hy)
theorem Inv.looks (g:Reg Sp z P ops cx st f) (I:Inv z P D ops cx st f ρ0 w0 S p ρ a w) {k:Nat} {o:Oper} (hk:k<ops.size) (ho:ops[at_ ops k]? =some o) (hns:S (at_ ops k)=false) (dF:x2i S o) {t:Tmp} (ht:t∈o.looksAt ops):
  Yy ρ ((f k).tmp t) (a.tmps.getD t undef):=by
 by_cases hw: ∃i x,ops[i]? =some x∧S i=true∧x.dst=some t
 ·obtain ⟨i,x,hx,hs,hd⟩:=hw;have hil:i<ops.size:=(AM.1 hx).1;obtain ⟨k',hk',rfl⟩:=j4v hil;have hne:k'≠k:=fun e=>by rw [e,hns] at hs;cases hs
  have hlt:k'<k:=by
   rcases Bi k' k with h | h
   ·exact h
   ·exfalso;have hkk:k<k':=(by omega);rcases BC (at_ ops k) (at_ ops k') with hij | hij | hij
    ·rcases g.chk.pair _ _ _ _ hij ho hx with hf | ⟨hap,_⟩
     ·have:=hf S I.closed (fun e he hb=>I.closed _ _ hx hs e he hb);rw [hns] at this;cases this
     ·obtain ⟨_,_,h3⟩:=Oper.apart_spec hap;exact h3 t hd ht
    ·rw [hij,hs] at hns;cases hns
    ·rcases z1f hkk hk' with ⟨h1,_⟩ | ⟨_,h2⟩
     ·rw [w0w g ho ((Um (z:=z) ho).1 h1)] at ht;cases ht
     ·omega
  have hst:(f k).tmp t=(f (k'+1)).tmp t:=g.slot_stays (by omega) (by omega) fun q y h1 h2 hy hyd=>by
   have:=x1p g hx hy hd hyd;have e:at_ ops k'=at_ ops q:=this;rcases z1f (ops:=ops) (k1:=k') (k2:=q) (by omega) (by omega) with ⟨h1,h2⟩ | ⟨_,h2⟩
   ·rw [e,h2] at h1;cases h1
   ·omega
  rw [hst];exact I.done k' x t hk' hx hs hd
 ·have hno: ∀i x,ops[i]? =some x→S i=true→x.dst≠some t:=fun i x hx hs hd=>hw ⟨i,x,hx,hs,hd⟩;have hst:(f k).tmp t=(f 0).tmp t:=g.slot_stays (AA _) (by omega) fun q y _ h2 hy hyd=>by
   have hqs:S (at_ ops q)=false:=by
    cases e:S (at_ ops q) with
    | false=>rfl
    | true=>exact absurd hyd (hno _ y hy e)
   rcases BC (at_ ops q) (at_ ops k) with hij | hij | hij
   ·rcases g.chk.pair _ _ _ _ hij hy ho with hf | ⟨hap,_⟩
    ·have:=hf S I.closed dF;rw [hqs] at this;cases this
    ·obtain ⟨h1,_,_⟩:=Oper.apart_spec hap;exact h1 t hyd ht
   ·rcases z1f (ops:=ops) h2 hk with ⟨h1,h3⟩ | ⟨_,h3⟩
    ·rw [hij,h3] at h1;cases h1
    ·omega
   ·rcases z1f (ops:=ops) h2 hk with ⟨h1,_⟩ | ⟨_,h3⟩
    ·have hap:=g.chk.alloc _ _ _ _ hij ho hy ((Um (z:=z) hy).1 h1);obtain ⟨_,_,h3⟩:=Oper.apart_spec hap;exact h3 t hyd ht
    ·omega
  rw [hst,g.f0];exact I.undone t hno
theorem Inv.operands (g:Reg Sp z P ops cx st f) (I:Inv z P D ops cx st f ρ0 w0 S p ρ a w) {k:Nat} {o:Oper} (hk:k<ops.size) (ho:ops[at_ ops k]? =some o) (hns:S (at_ ops k)=false) (dF:x2i S o):Qc ρ (f k).eval a.eval o.op:=by
 intro x hx;cases x with
 | tmp t=>exact I.looks g hk ho hns dF (y4y hx)
 | const v=>exact v2b v
 | global g=>exact .undef _
 | func f=>exact .fn f [] #[] rfl fun i h1 _=>by simp at h1
theorem Inv.slots (g:Reg Sp z P ops cx st f) (I:Inv z P D ops cx st f ρ0 w0 S p ρ a w) {k:Nat} {o:Oper} (hk:k<ops.size) (ho:ops[at_ ops k]? =some o) (hns:S (at_ ops k)=false) {ρ':Rho} (hle:ρ.le ρ') {u:Value}
  (dK: ∀d,o.dst=some d→Yy ρ' ((f (k+1)).tmp d) u) {S':Nat→Bool} (hS: ∀i,S' i=(S i||i == at_ ops k)):
  (∀k' x d,k'<ops.size→ops[at_ ops k']? =some x→S' (at_ ops k')=true→x.dst=some d→Yy ρ' ((f (k'+1)).tmp d) ((a.put o.dst u).tmps.getD d undef))∧
  (∀t,(∀i x,ops[i]? =some x→S' i=true→x.dst≠some t)→Yy ρ' (st.tmp t) ((a.put o.dst u).tmps.getD t undef)):=by
 have other: ∀t,o.dst≠some t→(a.put o.dst u).tmps.getD t undef=a.tmps.getD t undef:=fun t ht=>by
  cases hd:o.dst with
  | none=>rfl
  | some d=>have hne:d≠t:=fun e=>ht (by rw [hd,e]);simp [Act.put,Array.getElem?_setIfInBounds_ne hne]
 obtain ⟨_,ho',s⟩:=g.step' hk;rw [ho] at ho';obtain rfl:=Af ho';refine ⟨fun k' x d hk' hx hs hd=> ?_,fun t hno=> ?_⟩
 ·by_cases hod:o.dst=some d
  ·have e:=x1p g ho hx hod hd;have hkk:k'=k:=by
    rcases BC k' k with h | h | h
    ·rcases z1f (ops:=ops) h hk with ⟨h1,h3⟩ | ⟨_,h3⟩
     ·rw [←e,h3] at h1;cases h1
     ·omega
    ·exact h
    ·rcases z1f (ops:=ops) h hk' with ⟨h1,h3⟩ | ⟨_,h3⟩
     ·rw [e,h3] at h1;cases h1
     ·omega
   subst hkk;have hlt:d<a.tmps.size:=by rw [I.tsz];exact s.slot d hod
   have:(a.put o.dst u).tmps.getD d undef=u:=by simp [Act.put,hod,hlt]
   rw [this];exact dK d hod
  ·rw [other d hod];have hne:at_ ops k'≠at_ ops k:=fun e=>by rw [e,ho] at hx;obtain rfl:=Af hx;exact hod hd
   have hs':S (at_ ops k')=true:=by
    rw [hS] at hs
    simpa [hne] using hs
   exact (I.done k' x d hk' hx hs' hd).mono hle
 ·have hod:o.dst≠some t:=hno _ o ho (by rw [hS];simp);rw [other t hod];exact (I.undone t fun i x hx hs=>hno i x hx (by rw [hS,hs];rfl)).mono hle
theorem Inv.closes (I:Inv z P D ops cx st f ρ0 w0 S p ρ a w) {i:Nat} {o:Oper} (ho:ops[i]? =some o) (dF:x2i S o) {S':Nat→Bool} (hS: ∀j,S' j=(S j||j == i)):z9d ops S':=by
 intro j x hx hs e he hb;rw [hS] at hs ⊢;by_cases hj:j=i
 ·subst hj;rw [ho] at hx;obtain rfl:=Af hx;rw [dF e he hb];rfl
 ·have:S j=true:=by simpa [hj] using hs
  rw [I.closed j x hx this e he hb];rfl
theorem w7d {i:Nat} {l:Bool} {o:Oper} {ev:Operand→AVal} {mem:Mem} {y:Foot} (h:Xy z o.op=.read):lateF z ops (i,l,o) ev mem y=false:=by
 have hk:w0v o.op ev mem=none:=by
  unfold w0v;split
  ·rename_i e;rw [e] at h;cases h
  ·rfl
 unfold lateF;split
 ·rw [hk]
 ·rfl
theorem w7c {i j b:Nat} {l:Bool} {x:Oper} {ev:Operand→AVal} {mem:Mem} {wr:Option Nat} (h:lateF z ops (i,l,x) ev mem (j,some b,wr)=true):z1l z ops j i=true∧w0v x.op ev mem=some b:=by
 unfold lateF at h;split at h
 ·rename_i j' b' e;simp only [Ad,Ae] at e;obtain ⟨rfl,rfl,rfl⟩:=e;split at h
  ·rename_i b0 hb0;simp only [Ac] at h;obtain rfl:=Aj h.1;exact ⟨h.2,hb0⟩
  ·cases h
 ·cases h
theorem Inv.between (g:Reg Sp z P ops cx st f) (I:Inv z P D ops cx st f ρ0 w0 S p ρ a w) {k:Nat} {o:Oper} (hk:k<ops.size) (ho:ops[at_ ops k]? =some o) (hns:S (at_ ops k)=false) (dF:x2i S o) (eN:Xy z o.op=.read) {b:Nat} (hb:x7x o.op (f k).eval =some b):
  (∀q x,p≤q→q<k→ops[at_ ops q]? =some x→x8d z x∨Xy z x.op=.read ∨(Xy z x.op=.call ∧z4q ops (at_ ops q)=true∧wrC Sp x.op (f q).eval ≠some b)∨(Xy z x.op=.chain ∧x2j x.op (f q).eval ≠some b)∨z8j z x)∧
  (∀q x,k≤q→q<p→ops[at_ ops q]? =some x→x8d z x∨Xy z x.op=.read ∨(Xy z x.op=.call ∧z4q ops (at_ ops q)=true∧wrC Sp x.op (f q).eval ≠some b)∨(Xy z x.op=.chain ∧x2j x.op (f q).eval ≠some b)∨z8j z x∨(Qy z x∧z1l z ops (at_ ops k) (at_ ops q)=true∧w0v x.op (f q).eval (f q).mem =some b)):=by
 have nal:isAlloc ops (at_ ops k)=false:=by
  cases e:isAlloc ops (at_ ops k) with
  | false=>rfl
  | true=>have:=(Um (z:=z) ho).1 e;rw [eN] at this;cases this
 constructor
 ·intro q x h1 h2 hx;rcases x9b z x with h | h | h | h
  ·exact .inl h
  ·exact .inr (.inl h)
  ·have:=I.past q x (by omega) hx h;omega
  ·have hqs:S (at_ ops q)=false:=by
    cases e:S (at_ ops q) with
    | false=>rfl
    | true=>have:=(I.chain q x (by omega) hx h).1 e;omega
   have hlt:at_ ops q<at_ ops k:=by
    rcases z1f (ops:=ops) h2 hk with ⟨h3,_⟩ | ⟨_,h3⟩
    ·have:=I.past q x (by omega) hx (.inl ((Um (z:=z) hx).1 h3));omega
    ·exact h3
   rcases g.chk.pair _ _ _ _ hlt hx ho with hf | ⟨_,hkd,hl,_⟩
   ·have:=hf S I.closed dF;rw [hqs] at this;cases this
   ·have no:wrC Sp x.op (f q).eval ≠some b:=fun hw=>by
     have:=(g.foot' h2 hk ho hx).resolve_right (fun hl=>by
      rw [w7d eN] at hl;cases hl) (.inl (by rw [hb,hw];exact B4 b))
     unfold ordered at this;simp only [Bo] at this;rcases this with this | this
     ·have:=(g.chk.bits _ _ hx _ this).1;omega
     ·have:=(g.chk.bits _ _ ho _ this).2 S I.closed dF;rw [hqs] at this;cases this
    rcases h with h | h
    ·exact .inr (.inr (.inr (.inl ⟨h,by rw [←x2o ((x1i (by intro e;cases e) (by intro e;cases e)).1 h).1];exact no⟩)))
    ·exact .inr (.inr (.inl ⟨h,hl eN,no⟩))
 ·intro q x h1 h2 hx;have hp:=I.ple;rcases x9b z x with h | h | h | h
  ·exact .inl h
  ·exact .inr (.inl h)
  ·exact .inr (.inr (.inr (.inr (.inl h))))
  ·have hqs:S (at_ ops q)=true:=(I.chain q x (by omega) hx h).2 h2;have hne:q≠k:=fun e=>by rw [e,hns] at hqs;cases hqs
   have hlt:at_ ops k<at_ ops q:=by
    rcases z1f (ops:=ops) (k1:=k) (k2:=q) (by omega) (by omega) with ⟨h3,_⟩ | ⟨_,h3⟩
    ·rw [nal] at h3;cases h3
    ·exact h3
   rcases g.chk.pair _ _ _ _ hlt ho hx with hf | ⟨_,hkd,_,hl⟩
   ·have:=hf S I.closed fun e he hb=>I.closed _ _ hx hqs e he hb;rw [hns] at this;cases this
   ·rcases g.foot' (q:=k) (k:=q) (by omega) (by omega) hx ho with hfo | hla
    rotate_left
    ·rw [hb] at hla;exact .inr (.inr (.inr (.inr (.inr ⟨h,w7c hla⟩))))
    have no:wrC Sp x.op (f q).eval ≠some b:=fun hw=>by
     have:=hfo (.inr (by rw [hb,hw];exact B4 b));unfold ordered at this;simp only [Bo] at this;rcases this with this | this
     ·have:=(g.chk.bits _ _ ho _ this).1;omega
     ·have:=(g.chk.bits _ _ hx _ this).2 S I.closed fun e he hb=>I.closed _ _ hx hqs e he hb;rw [hns] at this;cases this
    rcases h with h | h
    ·exact .inr (.inr (.inr (.inl ⟨h,by rw [←x2o ((x1i (by intro e;cases e) (by intro e;cases e)).1 h).1];exact no⟩)))
    ·exact .inr (.inr (.inl ⟨h,hl eN,no⟩))
theorem Inv.next_chain (g:Reg Sp z P ops cx st f) (I:Inv z P D ops cx st f ρ0 w0 S p ρ a w) {k:Nat} {o:Oper} (hk:k<ops.size) (ho:ops[at_ ops k]? =some o) (hns:S (at_ ops k)=false) (dF:x2i S o) (hch:Qy z o):
  p≤k∧(∀q x,q<ops.size→ops[at_ ops q]? =some x→Qy z x→(S (at_ ops q)=true↔q<k)):=by
 have nal:isAlloc ops (at_ ops k)=false:=by
  cases e:isAlloc ops (at_ ops k) with
  | false=>rfl
  | true=>have:=(Um (z:=z) ho).1 e;rcases hch with h | h <;> rw [h] at this <;> cases this
 have key: ∀q x,q<ops.size→ops[at_ ops q]? =some x→Qy z x→(S (at_ ops q)=true↔q<k):=by
  intro q x hq hx hxc;have nalx:isAlloc ops (at_ ops q)=false:=by
   cases e:isAlloc ops (at_ ops q) with
   | false=>rfl
   | true=>have:=(Um (z:=z) hx).1 e;rcases hxc with h | h <;> rw [h] at this <;> cases this
  have nok: ∀(x y:Oper),Qy z x→Qy z y→x9a (Xy z x.op) (Xy z y.op)=false:=by
   intro x y hx hy;rcases hx with h | h <;> rcases hy with h' | h' <;> rw [h,h'] <;> rfl
  constructor
  ·intro hs;rcases BC q k with h | h | h
   ·exact h
   ·subst h;rw [hns] at hs;cases hs
   ·exfalso;have hlt:at_ ops k<at_ ops q:=by
     rcases z1f (ops:=ops) h hq with ⟨h3,_⟩ | ⟨_,h3⟩
     ·rw [nal] at h3;cases h3
     ·exact h3
    rcases g.chk.pair _ _ _ _ hlt ho hx with hf | ⟨_,hkd,_⟩
    ·have:=hf S I.closed fun e he hb=>I.closed _ _ hx hs e he hb;rw [hns] at this;cases this
    ·rw [nok o x hch hxc] at hkd;cases hkd
  ·intro h;have hlt:at_ ops q<at_ ops k:=by
    rcases z1f (ops:=ops) h hk with ⟨h3,_⟩ | ⟨_,h3⟩
    ·rw [nalx] at h3;cases h3
    ·exact h3
   rcases g.chk.pair _ _ _ _ hlt hx ho with hf | ⟨_,hkd,_⟩
   ·exact hf S I.closed dF
   ·rw [nok x o hxc hch] at hkd;cases hkd
 refine ⟨?_,key⟩;rcases Bi k p with h | h
 ·have:=(I.chain k o hk ho hch).2 h;rw [hns] at this;cases this
 ·exact h
end
end
end Go.Am
end
