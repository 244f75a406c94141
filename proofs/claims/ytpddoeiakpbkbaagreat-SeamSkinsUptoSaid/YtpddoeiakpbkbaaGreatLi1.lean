/- A part of a proof: several texts in one. -/
import Derived.Test.YtpddoeiakpbkbaaGreatLi0
import Derived.IntWalk
set_option maxRecDepth 1000000
set_option maxHeartbeats 8000000
set_option linter.unusedVariables false
set_option linter.unusedSimpArgs false
noncomputable section
namespace Go.Am
open IntKind (wrap)
section
variable {P:Program} {ρ:Rho}
theorem z8t {t u e:TypeId} {ut:TypeDesc} {i:TypeInfo} {type:TypeId} (hu:P.underlying t=some (.slice e)) (hut:P.underlying u=some ut) (hni: ∀k,ut≠ .int k) (hi:P.info? e=some i) {ts:List TypeId} {base:Option Addr} {len n c:Nat} {x:Value} {vs:Array Value} {xs:List Value} {w:World}
  (dR:(Builtin.lenOf x).run P w=.ok n w) (eO:(Builtin.firstCells i.size n x).run P w=.ok vs w) (dX:len+n≤c) {w':World}
  (hst: ∀a,base=some a→(storeCells (a.add (len*i.size)) vs.toList).run P w=.ok () w') (hno:base=none→w'=w):
  (Builtin.append_ (t::u::ts).toArray type ((.slice base len c)::x::xs).toArray).run P w=.ok (.slice base (len+n) c) w':=by
 cases base with
 | none=>obtain rfl:=hno rfl;simp [Builtin.append_,run_underlying hu,run_underlying hut,Zo hi,dR,eO,dX]
 | some a=>have:=hst a rfl;simp [Builtin.append_,run_underlying hu,run_underlying hut,Zo hi,dR,eO,dX,this]
theorem z6v {t u e:TypeId} {ut:TypeDesc} {i:TypeInfo} {type:TypeId} (hu:P.underlying t=some (.slice e)) (hut:P.underlying u=some ut) (hni: ∀k,ut≠ .int k) (hi:P.info? e=some i) {z:Value} (hz:i.zero=some z) {ts:List TypeId} {base:Option Addr} {len n c:Nat} {x:Value} {vs old:Array Value} {xs:List Value} {w:World}
  (dR:(Builtin.lenOf x).run P w=.ok n w) (eO:(Builtin.firstCells i.size n x).run P w.drew=.ok vs w.drew) (hold:(Builtin.firstCells i.size len (.slice base len c)).run P w.drew=.ok old w.drew)
  (dX:c<len+n) (fE:(len+n+1)*(i.bytes+1)≤1099511627776):
  ∃newCap,len+n≤newCap∧ ∃rest:Array Value,rest.size=(newCap - (len+n))*z.cells.size∧
  (Builtin.append_ (t::u::ts).toArray type ((.slice base len c)::x::xs).toArray).run P w=.ok (.slice (some ⟨w.heap.size,0,none⟩) (len+n) newCap) (w.drew.alloc (.cells (old++vs++rest) e)):=by
 have gC:len+n+1≤(len+n+1)*(i.bytes+1):=Nat.le_mul_of_pos_right _ (by omega);have hr:=v4r fE dX;have hr': ¬2 ^ 48<Builtin.nextslicecap (len+n) c*i.bytes:=hr;have hr'': ¬281474976710656<Builtin.nextslicecap (len+n) c*i.bytes:=hr;have h1: ¬len+n≤c:=by omega
 have h2: ¬(9223372036854775807<(len:Int)+(n:Int)):=by omega
 have hq:(Question.appendCap (len+n) c e).forced =false:=rfl;have hzero: ∀w,(zeroValue e).run P w=.ok z w:=fun w=>by simp [zeroValue,run_typeInfo w hi,hz]
 refine ⟨(Question.appendCap (len+n) c e).cut (w.tape w.drawn (Question.appendCap (len+n) c e)),by simp only [Question.cut];omega,Builtin.zeroCells z.cells ((Question.appendCap (len+n) c e).cut (w.tape w.drawn (Question.appendCap (len+n) c e)) - (len+n)),by simp [Builtin.zeroCells],?_⟩;have hty: ∀w,(typeInfo e).run P w=.ok i w:=fun w=>run_typeInfo w hi;simp [Builtin.append_,run_underlying hu,run_underlying hut,Zo hi,dR,h1,h2,hty,hr'',hq,eO,hold,hzero,newRow]
theorem Ue.append {a b:List AVal} {us vs:Array Value} (h:Ue ρ a us) (k:Ue ρ b vs):Ue ρ (a++b) (us++vs):=by
 refine ⟨by simp [h.1,k.1],fun i h1 h2=> ?_⟩;by_cases hi:i<a.length
 ·rw [BA hi,Array.getElem_append_left (by rw [←h.1];exact hi)];exact h.2 i hi (by rw [←h.1];exact hi)
 ·rw [BK (by omega),Array.getElem_append_right (by rw [←h.1];omega)];have e:=h.1;simp only [e];exact k.2 (i - us.size) (by simp at h1;omega) (by simp at h2;omega)
theorem z6d {st:St} {w:World} (h:Rel ρ st.mem st.next w) (floor:Nat) {cs:List AVal} {vs:Array Value} (hr:Ue ρ cs vs) (rest:Array Value) (ty el:TypeId) (v:AVal) (u:Value)
  (eC: ∀ρ',ρ' st.next=some ⟨w.heap.size,0,cs.length,vs.size+rest.size⟩→Yw ρ' v u):
  x5k ρ floor st (y2k st cs ty) v w (Uw ρ st.next ⟨w.heap.size,0,cs.length,vs.size+rest.size⟩) u (w.drew.alloc (.cells (vs++rest) el)):=by
 have hd:Rel ρ st.mem st.next w.drew:=h.drawn _
 have:=z6c hd floor cs ty (vs++rest) el (by rw [hr.1];simp) (fun i h1 h2=>by
  rw [Array.getElem_append_left (by rw [←hr.1];exact h1)];exact hr.2 i h1 (by rw [←hr.1];exact h1)) v u (fun ρ' hρ'=>eC ρ' (by simpa using hρ'))
 simp only [BR] at this;exact ⟨this.val,this.rel,this.ev.drawn⟩
theorem z0n {α:Type} {c:Bool} {x:Option α} {y:α} (h:(bif c then x else none)=some y):c=true∧x=some y:=by
 cases c with
 | false=>cases h
 | true=>exact ⟨rfl,h⟩
structure u5q (P:Program) (ρ:Rho) (t u e:TypeId) (i:TypeInfo) (z:Value) (ux:Value) (n:Nat) (new:List AVal) (vs:Array Value) (w:World):Prop where
 rel:Ue ρ new vs
 hin: ∀{type:TypeId} {ts:List TypeId} {base:Option Addr} {len c:Nat} {xs:List Value},(n=0∨(n+1)*(i.bytes+1)≤1099511627776)→len+n≤c→ ∀{w':World},(∀a,base=some a→(storeCells (a.add (len*i.size)) vs.toList).run P w=.ok () w')→(base=none→w'=w)→
  (Builtin.append_ (t::u::ts).toArray type ((.slice base len c)::ux::xs).toArray).run P w=.ok (.slice base (len+n) c) w'
 hnew: ∀{type:TypeId} {ts:List TypeId} {base:Option Addr} {len c:Nat} {xs:List Value} {old:Array Value},(Builtin.firstCells i.size len (.slice base len c)).run P w.drew=.ok old w.drew→c<len+n→(len+n+1)*(i.bytes+1)≤1099511627776→
  ∃newCap,len+n≤newCap∧ ∃rest:Array Value,rest.size=(newCap - (len+n))*z.cells.size∧
   (Builtin.append_ (t::u::ts).toArray type ((.slice base len c)::ux::xs).toArray).run P w=.ok (.slice (some ⟨w.heap.size,0,none⟩) (len+n) newCap) (w.drew.alloc (.cells (old++vs++rest) e))
theorem y9s {n:Int} {bytes:Nat} (h0:0≤n) (h:n.toNat=0∨(n.toNat+1)*(bytes+1)≤1099511627776):IntKind.i64.wrap n=n∧n*(bytes:Int)≤281474976710656:=by
 rcases h with h | h
 ·obtain rfl:n=0:=by omega
  exact ⟨rfl,by omega⟩
 ·have h1:n.toNat+1≤(n.toNat+1)*(bytes+1):=Nat.le_mul_of_pos_right _ (by omega);have h2:n.toNat*bytes≤(n.toNat+1)*(bytes+1):=Nat.mul_le_mul (by omega) (by omega);refine ⟨IntWalk.i64_in _ (by omega),?_⟩;have h3:((n.toNat*bytes:Nat):Int)≤1099511627776:=by omega
  rw [Int.natCast_mul,Int.toNat_of_nonneg h0] at h3;omega
theorem Jr {mem:Mem} {next:Nat} {w:World} (h:Rel ρ mem next w) {t u e:TypeId} {ut:TypeDesc} {i:TypeInfo} {z:Value} {zero:List AVal} {x:AVal} {ux:Value} {n:Nat} {new:List AVal} (hu:P.underlying t=some (.slice e)) (hut:P.underlying u=some ut) (hi:P.info? e=some i) (hz:i.zero=some z)
  (hzr:Ue ρ zero z.cells) (hzl:zero.length=i.size) (hc:Ut mem i.size zero ut x=some (n,new)) (hx:Yw ρ x ux) (hnl:new.length=n*i.size): ∃vs,u5q P ρ t u e i z ux n new vs w:=by
 unfold Ut at hc;split at hc
 ·rename_i kt;split at hc
  ·rename_i k m;obtain ⟨h0,hc⟩:=z0n hc;have h0:=AA h0;simp only [Ae,Ad] at hc;obtain ⟨rfl,rfl⟩:=hc;cases hx;have hzs:z.cells.size=i.size:=by rw [←hzr.1];exact hzl
   refine ⟨Builtin.zeroCells z.cells m.toNat,?_,?_,?_⟩
   ·exact y1m hzr m.toNat (m.toNat*z.cells.size) (by rw [hzr.1])
   ·intro type ts base len c xs hr dX w' hst hno;obtain ⟨hw,hb⟩:=y9s h0 hr;have hb': ¬281474976710656<m*(i.bytes:Int):=(by omega);have hlt: ¬m<0:=(by omega);have hzv: ∀w,(zeroValue e).run P w=.ok z w:=fun w=>by simp [zeroValue,run_typeInfo w hi,hz]
    have hty: ∀w,(typeInfo e).run P w=.ok i w:=fun w=>run_typeInfo w hi;by_cases hz0:m.toNat*i.size=0
    ·have hze:Builtin.zeroCells z.cells m.toNat= #[]:=(by simp [Builtin.zeroCells,hzs,hz0]);rw [hze] at hst;cases base with
     | none=>obtain rfl:=hno rfl;simp [Builtin.append_,run_underlying hu,run_underlying hut,Zo hi,asInt,asIntOf,hw,hlt,hty,hb',dX,hz0]
     | some a=>have:=hst a rfl;simp only [] at this;simp [Builtin.append_,run_underlying hu,run_underlying hut,Zo hi,asInt,asIntOf,hw,hlt,hty,hb',dX,hz0,this]
    ·cases base with
     | none=>obtain rfl:=hno rfl;simp [Builtin.append_,run_underlying hu,run_underlying hut,Zo hi,asInt,asIntOf,hw,hlt,hty,hb',dX,hz0,hzv]
     | some a=>have:=hst a rfl;simp [Builtin.append_,run_underlying hu,run_underlying hut,Zo hi,asInt,asIntOf,hw,hlt,hty,hb',dX,hz0,hzv,this]
   ·intro type ts base len c xs old hold dX fE;have hr:m.toNat=0∨(m.toNat+1)*(i.bytes+1)≤1099511627776:=.inr (AK (AH _ (by omega)) fE);obtain ⟨hw,hb⟩:=y9s h0 hr;have hb': ¬281474976710656<m*(i.bytes:Int):=(by omega);have hlt: ¬m<0:=(by omega);have gC:len+m.toNat+1≤(len+m.toNat+1)*(i.bytes+1):=Nat.le_mul_of_pos_right _ (by omega);have hr0:=v4r fE dX;have hr'': ¬281474976710656<Builtin.nextslicecap (len+m.toNat) c*i.bytes:=hr0;have h1: ¬len+m.toNat≤c:=(by omega);have h2: ¬(9223372036854775807<(len:Int)+(m.toNat:Int)):=(by omega);have h2': ¬(9223372036854775807<(len:Int)+max m 0):=(by omega);have hq:(Question.appendCap (len+m.toNat) c e).forced =false:=rfl;have hzv: ∀w,(zeroValue e).run P w=.ok z w:=fun w=>by simp [zeroValue,run_typeInfo w hi,hz]
    have hty: ∀w,(typeInfo e).run P w=.ok i w:=fun w=>run_typeInfo w hi;refine ⟨(Question.appendCap (len+m.toNat) c e).cut (w.tape w.drawn (Question.appendCap (len+m.toNat) c e)),by simp only [Question.cut];omega,Builtin.zeroCells z.cells ((Question.appendCap (len+m.toNat) c e).cut (w.tape w.drawn (Question.appendCap (len+m.toNat) c e)) - (len+m.toNat)),by simp [Builtin.zeroCells],?_⟩;by_cases hz0:m.toNat*i.size=0
    ·have hze:Builtin.zeroCells z.cells m.toNat= #[]:=(by simp [Builtin.zeroCells,hzs,hz0]);simp [Builtin.append_,run_underlying hu,run_underlying hut,Zo hi,asInt,asIntOf,hw,hlt,hb',h1,h2,h2',hty,hr'',hq,hold,hzv,newRow,hz0,hze]
    ·simp [Builtin.append_,run_underlying hu,run_underlying hut,Zo hi,asInt,asIntOf,hw,hlt,hb',h1,h2,h2',hty,hr'',hq,hold,hzv,newRow,hz0]
  ·cases hc
 ·rename_i hni';have hni: ∀k,ut≠ .int k:=fun k hk=>hni' k hk;obtain ⟨dR,eO⟩:=Vq (P:=P) h hc hx hnl;obtain ⟨vs,hvs,hfc⟩:=eO n (Ar _);rw [AP (by omega)] at hvs;have fG:(Builtin.firstCells i.size n ux).run P w=.ok vs w:=hfc w.drawn;have hfc1:(Builtin.firstCells i.size n ux).run P w.drew=.ok vs w.drew:=hfc (w.drawn+1);exact ⟨vs,hvs,fun _ dX _ hst hno=>z8t hu hut hni hi (dR w) fG dX hst hno,fun hold dX fE=>z6v hu hut hni hi hz (dR w) hfc1 hold dX fE⟩
theorem x6m {w:World} {x:Obj} {n:Nat} {k:Nat} {o:Obj} (h:w.heap[k]? =some o):(World.alloc {w with drawn:=n} x).heap[k]? =some o:=by have:k<w.heap.size:=(AJ.1 h).1;show (w.heap.push x)[k]? =some o;simp only [Bp,A7 this,Cr];exact h
theorem x9n {w:World} {k:Nat} {cur:Array Value} {el:TypeId} {vs:List Value} {m:Nat} (hw:w.heap[k]? =some (.cells cur el (0,0))) (hm:m+vs.length≤cur.size):
  ∃cs1,(w.setRow k (cur.toList.take m++vs++cur.toList.drop (m+vs.length)).toArray).heap[k]? =some (.cells cs1 el (0,0))∧cs1.size=cur.size∧ ∀j,j<m→cs1[j]? =cur[j]? :=by
 have hc:cur.toList.length=cur.size:=B2;refine ⟨_,setRow_heap w k cur _ el (0,0) hw,by simp;omega,fun j hj=> ?_⟩;rw [B7,AL,Bx (by simp;omega),List.getElem?_take_of_lt hj,Array.getElem?_toList]
def j8q (ρ:Rho) (m:Mem) (xs:List AVal) (w w':World):Prop:=
 (∀(b off len z b2 o2 n2:Nat) (c2:v2a) (r:List AVal) (blk:ABlk) (l:Loc),xs=.sl b off len (.un z)::.sl b2 o2 n2 c2::r→1≤n2→Yn m b=some blk→off+len*z=blk.cells.length→ρ b=some l→Jz ρ w' blk l)∧
 ∀r:List AVal,xs=.nils ::r→ ∀(k:Nat) (o:Obj),w.heap[k]? =some o→w'.heap[k]? =some o
theorem w1v {m:Mem} {sz:Nat} {zero:List AVal} {ut:TypeDesc} {b o n2:Nat} {c:v2a} {n:Nat} {new:List AVal} (h:Ut m sz zero ut (.sl b o n2 c)=some (n,new)):n=n2:=by
 have key:Xv m sz (.sl b o n2 c)=some (n,new)→n=n2:=fun h=>by
  simp only [Xv] at h;cases hm:Yn m b with
  | none=>rw [hm] at h;cases h
  | some blk=>rw [hm] at h;simp only [Aq,Ad] at h;obtain ⟨_,_,e,_⟩:=h;exact e.symm
 cases ut <;> first | exact key h | (cases h;done)
theorem z0o {st st':St} {w:World} (h:Rel ρ st.mem st.next w) (floor:Nat) {ts:Array TypeId} {type:TypeId} {xs:List AVal} {us:Array Value} {v:AVal} (ha:z1i P floor st ts.toList xs=some (v,st')) (hx:Vj (Yw ρ) xs us.toList):
  ∃ρ' u w',(Builtin.append_ ts type us).run P w=.ok u w'∧x5k ρ floor st st' v w ρ' u w'∧(st'.env=st.env∧st'.ob=st.ob)∧j8q ρ st.mem xs w w':=by
 obtain ⟨ts⟩:=ts;obtain ⟨us⟩:=us;simp only at ha hx;unfold z1i at ha;split at ha
 ·rename_i t tu tts s x txs;cases hx with
  | @cons _ su _ _ hs hx=>
   cases hx with
   | @cons _ ux _ uxs hx _=>
    split at ha
    ·rename_i e ut hu hut;split at ha
     ·rename_i i zero hi hz;split at ha
      ·rename_i n new hcs;obtain ⟨i2,z,hi2,hz2,hzr,_⟩:=Wq (ρ:=ρ) hz;obtain rfl:i=i2:=by rw [hi] at hi2;exact Af hi2
       cases hc:(Nat.beq zero.length i.size&&Nat.beq new.length (n*i.size)&&Nat.ble 1 i.size&&new.all y1u) with
       | false=>rw [hc] at ha;cases ha
       | true =>
        rw [hc,Ab] at ha;simp only [Ac] at hc;obtain ⟨⟨⟨hzl,hnl⟩,hsz⟩,hsc⟩:=hc;have hzl:=Ak hzl;have hnl:=Ak hnl;have hsz:=Al hsz;have hzs:z.cells.size=i.size:=by rw [←hzr.1];exact hzl
        obtain ⟨vs,hF⟩:=Jr (P:=P) h hu hut hi hz2 hzr hzl hcs hx hnl;have hvs:=hF.rel;have hvsz:vs.size=n*i.size:=by rw [←hvs.1];exact hnl
        have eU:=Yw.cells_oneCell hvs hsc;split at ha
        ·-- nil
         cases hs;cases hn0:Nat.beq n 0 with
         | true=>rw [hn0,Ab] at ha;simp only [Ae,Ad] at ha;obtain ⟨rfl,rfl⟩:=ha;have hn0:=Ak hn0;subst hn0;have dS:=hF.hin (type:=type) (ts:=tts) (base:=none) (len:=0) (c:=0) (xs:=uxs) (.inl rfl) (Ar _) (w':=w) (fun a e=>by cases e) (fun _=>rfl);exact ⟨ρ,_,w,dS,⟨.nils,h,Ev.refl _ _ _ _ _ h.dom⟩,⟨rfl,rfl⟩,(fun _ _ _ _ _ _ _ _ _ _ _ e=>by cases e),fun _ _ _ _ h=>h⟩
         | false=>
          rw [hn0,Aa] at ha;cases hrm:Nat.ble ((n+1)*(i.bytes+1)) Jh with
          | false=>rw [hrm] at ha;cases ha
          | true=>
           rw [hrm,Ab] at ha;simp only [Ae,Ad] at ha;obtain ⟨rfl,rfl⟩:=ha;have hrm:=Al hrm;have hnpos:0<n:=by
            rcases BG n with e | e
            ·rw [e] at hn0;cases hn0
            ·exact e
           obtain ⟨newCap,dW,rest,eQ,dS⟩:=hF.hnew (type:=type) (ts:=tts) (base:=none) (len:=0) (c:=0) (xs:=uxs) (old:= #[]) (by simp [Builtin.firstCells]) (by omega) (by simpa [Jh] using hrm);simp only [Ag,Array.empty_append] at dS dW eQ;have hsum:vs.size+rest.size=newCap*i.size:=by rw [hvsz,eQ,hzs,←AR];congr 1;omega
           refine ⟨_,_,_,dS,z6d h floor hvs rest e e _ _ (fun ρ' hρ'=> ?_),⟨rfl,rfl⟩,(fun _ _ _ _ _ _ _ _ _ _ _ e=>by cases e),fun _ _ k o h=>x6m h⟩;refine .sl _ 0 _ _ _ _ hρ' ?_ dW;simp only [z1q];rw [hsum,hnl];exact ⟨by rw [Ag];exact AH _ dW,by omega⟩
        ·-- a slice
         rename_i b off len cap;split at ha
         ·rename_i blk hm;split at ha
          ·rename_i old hold;cases hrm:Nat.ble ((len+n+1)*(i.bytes+1)) Jh with
           | false=>rw [hrm] at ha;cases ha
           | true =>
            rw [hrm,Ab] at ha;have hrm:=Al hrm;have hrn:n=0∨(n+1)*(i.bytes+1)≤1099511627776:=.inr (AK (AH _ (by omega)) hrm);cases hs with
            | sl _ _ _ _ l c hρ dW hlc=>
             obtain ⟨hpold,fX,holdle⟩:=z6j hold;have fI:=h.blk b l blk hρ hm;have hln:=fI.n;have gC:(len+n)*i.size=len*i.size+n*i.size:=AR _ _ _;have hoff:off+len*i.size≤blk.cells.length∨len*i.size=0:=(by omega);have hcos:Xv st.mem i.size (.sl b off len cap)=some (len,old):=(by simp [Xv,hm,hold]);obtain ⟨_,hfo⟩:=Vq (P:=P) h hcos (.sl b off len cap l c hρ dW hlc) fX;obtain ⟨ovs,hovs,hof⟩:=hfo len (Ar _);rw [AP (by omega)] at hovs;have hovz:ovs.size=len*i.size:=by rw [←hovs.1];exact fX
             have hof1:(Builtin.firstCells i.size len (.slice (some ⟨l.blk,l.base+off,none⟩) len c)).run P w.drew=.ok ovs w.drew:=hof (w.drawn+1);have inplace: ∀v st',len+n≤c→floor≤b→off+(len+n)*i.size≤blk.cells.length→
               some (AVal.sl b off (len+n) cap,st.withMem (Wz st.mem b (some ⟨blk.cells.take (off+len*i.size)++new++blk.cells.drop (off+(len+n)*i.size),blk.ty,none⟩)))=some (v,st')→(∀z,cap=.un z→z=i.size)→
               ∃ρ' u w',(Builtin.append_ (t::tu::tts).toArray type ((.slice (some ⟨l.blk,l.base+off,none⟩) len c)::ux::uxs).toArray).run P w=.ok u w'∧x5k ρ floor st st' v w ρ' u w'∧(st'.env=st.env∧st'.ob=st.ob)∧j8q ρ st.mem (.sl b off len cap::x::txs) w w':=by
              intro v st' dX hfl eA he hzc;simp only [Ae,Ad] at he;obtain ⟨rfl,rfl⟩:=he;obtain ⟨cur,el,hw,fR,dQ⟩:=h.write hρ hm (off:=off+len*i.size) (cs:=new) (vs:=vs.toList) (by simpa using hvs.1.symm) (by omega) (fun j h1 h2=>by simpa using hvs.2 j h1 (by simpa using h2));have hst:=run_storeCells_at P l.blk (l.base+off+len*i.size) el vs.toList 0 cur w hw (by rw [A3,AB l.base];exact fR) eU;rw [A3] at hst;have dS:=hF.hin (type:=type) (ts:=tts) (base:=some ⟨l.blk,l.base+off,none⟩) (len:=len) (c:=c) (xs:=uxs) hrn dX (w':=w.setRow l.blk (cur.toList.take (l.base+off+len*i.size)++vs.toList++cur.toList.drop (l.base+off+len*i.size+vs.toList.length)).toArray)
               (fun a e=>by cases e;rw [Xb];exact hst) (fun e=>by cases e)
              refine ⟨ρ,_,_,dS,⟨.sl _ _ _ _ l c hρ dW (by omega),?_,Ev.ofWrite h hρ hfl _ _⟩,⟨rfl,rfl⟩,(fun b' off' len' z b2 o2 n2 c2 r blk' l' e hn hm' hend hl'=> ?keep),fun _ e=>by cases e⟩
              case keep=>exfalso;cases e;obtain rfl:=hzc _ rfl;rw [hm] at hm';obtain rfl:=Af hm';obtain rfl:=w1v hcs;have:1*i.size≤n*i.size:=AH _ hn;omega
              have e1:off+len*i.size+new.length=off+(len+n)*i.size:=(by omega);rw [e1] at dQ
              simpa only [St.withMem,AB] using dQ
             have anew: ∀v st' (st1:St),c<len+n→Rel ρ st1.mem st1.next w→Ev ρ ρ floor st.mem st.next st1.mem st1.next w w→st1.env=st.env→st1.ob=st.ob→
               some (AVal.sl st1.next 0 (len+n) (.un i.size),y2k st1 (old++new) e)=some (v,st')→
               ∃ρ' u w',(Builtin.append_ (t::tu::tts).toArray type ((.slice (some ⟨l.blk,l.base+off,none⟩) len c)::ux::uxs).toArray).run P w=.ok u w'∧x5k ρ floor st st' v w ρ' u w'∧(st'.env=st.env∧st'.ob=st.ob)∧j8q ρ st.mem (.sl b off len cap::x::txs) w w':=by
              intro v st' st1 dX eX hev1 dU hob he;simp only [Ae,Ad] at he;obtain ⟨rfl,rfl⟩:=he;obtain ⟨newCap,fF,rest,eQ,dS⟩:=hF.hnew (type:=type) (ts:=tts) (base:=some ⟨l.blk,l.base+off,none⟩) (len:=len) (c:=c) (xs:=uxs) hof1 dX (by simpa [Jh] using hrm);have hov:=hovs.append hvs;have hsum:(ovs++vs).size +rest.size=newCap*i.size:=by rw [BR,hovz,hvsz,eQ,hzs,←AR,←AR];congr 1;omega
              have hp:=z6d eX floor hov rest e e (.sl st1.next 0 (len+n) (.un i.size)) (.slice (some ⟨w.heap.size,0,none⟩) (len+n) newCap) (fun ρ' hρ'=>by
               refine .sl _ 0 _ _ _ _ hρ' ?_ fF;simp only [z1q];rw [hsum];exact ⟨by rw [Ag,Aw,fX,hnl,←AR];exact AH _ fF,by omega⟩)
              refine ⟨_,_,_,dS,⟨hp.val,hp.rel,hev1.trans hp.ev⟩,⟨?_,?_⟩,(fun b' off' len' z b2 o2 n2 c2 r blk' l' e hn hm' hend hl'=> ?keep),fun _ e=>by cases e⟩
              case keep=>have hq:=h.blk b' l' blk' hl' hm';refine hq.world (Rho.le_refl ρ) ?_;obtain ⟨_,_,_,cs0,el0,g1,_⟩:=hq;rw [g1];exact x6m g1
              ·simpa [y2k] using dU
              ·simpa [y2k] using hob
             split at ha
             ·-- the capacity is known
              rename_i k;simp only [z1q] at dW;subst dW;cases hk:Nat.ble (len+n) c with
              | true=>
               rw [hk,Ab] at ha;have hk:=Al hk;cases hf:(Nat.ble floor b&&Nat.ble (off+(len+n)*i.size) blk.cells.length) with
               | false=>rw [hf] at ha;cases ha
               | true=>rw [hf,Ab] at ha;simp only [Ac] at hf;exact inplace _ _ hk (Al hf.1) (Al hf.2) ha (fun z e=>by cases e)
              | false=>
               rw [hk,Aa] at ha;have hk: ¬len+n≤c:=fun e=>by rw [Bh e] at hk;cases hk
               exact anew _ _ st (by omega) h (Ev.refl _ _ _ _ _ h.dom) rfl rfl ha
             ·-- it is not
              rename_i zz;simp only [z1q] at dW;cases hf:(Nat.beq zz i.size&&Nat.ble floor b) with
              | false=>rw [hf] at ha;cases ha
              | true=>
               rw [hf,Ab] at ha;simp only [Ac] at hf;have hzz:=Ak hf.1;have hfl:=Al hf.2;subst hzz;cases hk:Nat.ble (off+(len+n)*i.size) blk.cells.length with
               | true=>
                rw [hk,Ab] at ha;have hk:=Al hk;have dX:len+n≤c:=by rw [hln] at dW;have:(len+n)*i.size≤c*i.size:=(by omega);exact Nat.le_of_mul_le_mul_right this hsz
                exact inplace _ _ dX hfl hk ha (fun z e=>by cases e;rfl)
               | false=>
                rw [hk,Aa] at ha;cases hend:Nat.beq (off+len*i.size) blk.cells.length with
                | false=>rw [hend] at ha;cases ha
                | true=>
                 rw [hend,Ab] at ha;have hend:=Ak hend;by_cases dX:len+n≤c
                 ·-- there is Jh: behind what is told
                  simp only [Ae,Ad] at ha;obtain ⟨rfl,rfl⟩:=ha;have hcm:(len+n)*i.size≤c*i.size:=AH _ dX;obtain ⟨cur,el,hw,fR,dQ⟩:=h.beyond hρ hm (off:=off) (new:=new) (vs:=vs.toList) e (by simpa using hvs.1.symm) (by omega) (by omega) (fun j h1 h2=>by simpa using hvs.2 j h1 (by simpa using h2));have hst:=run_storeCells_at P l.blk (l.base+off+len*i.size) el vs.toList 0 cur w hw (by rw [A3,AB l.base,hend];exact fR) eU;rw [A3] at hst;have dS:=hF.hin (type:=type) (ts:=tts) (base:=some ⟨l.blk,l.base+off,none⟩) (len:=len) (c:=c) (xs:=uxs) hrn dX (w':=w.setRow l.blk (cur.toList.take (l.base+off+len*i.size)++vs.toList++cur.toList.drop (l.base+off+len*i.size+vs.toList.length)).toArray)
                   (fun a e=>by cases e;rw [Xb];exact hst) (fun e=>by cases e)
                  have hod:old=blk.cells.drop off:=by rw [hpold];exact AP (by simp;omega)
                  refine ⟨_,_,_,dS,⟨.sl _ 0 _ _ ⟨l.blk,l.base+off,blk.cells.length - off+new.length,l.tot - off⟩ c (by simp [Uw]) ?_ (by omega),?_,Ev.ofBeyond h hρ hfl ⟨l.blk,l.base+off,blk.cells.length - off+new.length,l.tot - off⟩ rfl _ _⟩,⟨rfl,rfl⟩,(fun b' off' len' z b2 o2 n2 c2 r blk' l' e hn hm' _ hl'=> ?keep),fun _ e=>by cases e⟩
                  case keep=>
                   cases e;rw [hm] at hm';obtain rfl:=Af hm';rw [hρ] at hl';obtain rfl:=Af hl';obtain ⟨q1,q2,q3,cs0,el0,q4,q5,q6⟩:=fI;rw [hw] at q4;obtain ⟨rfl,rfl⟩:cur=cs0∧el=el0:=by have:=Af q4;injection this with g1 g2;exact ⟨g1,g2⟩
                   obtain ⟨cs1,s1,s2,s3⟩:=x9n (vs:=vs.toList) hw (m:=l.base+off+len*i.size) (by rw [AB l.base,hend];exact fR);refine ⟨q1,q2,q3,cs1,el,s1,by rw [s2];exact q5,fun k hk=> ?_⟩;obtain ⟨v,r1,r2⟩:=q6 k hk;exact ⟨v,by rw [s3 _ (by omega)];exact r1,r2⟩
                  ·simp only [z1q];omega
                  ·rw [hod];have e2:l.base+off+len*i.size=l.base+blk.cells.length:=(by omega);rw [e2]
                   simpa only [y2k,St.withMem] using dQ
                 ·exact anew _ _ (st.withMem (Wz st.mem b none)) (by omega) (h.kill b) (Ev.ofKill h floor hρ) rfl rfl ha
          ·cases ha
         ·cases ha
        ·cases ha
      ·cases ha
     ·cases ha
    ·cases ha
 ·cases ha
theorem w5e {get:Nat→List AVal} {off len n sz N:Nat} {new:List AVal} (hl: ∀i,i<N→(get i).length =sz) (hN:off+len=N) (hnew:new.length=n*sz):
  (∀i,i<len+n→(Zr get off len sz new i).length =sz)∧Yq (len+n) (Zr get off len sz new)=((Yq N get).drop (off*sz)).take (len*sz)++new:=by
 have h1: ∀i,i<len+n→(Zr get off len sz new i).length =sz:=fun i hi=>by
  unfold Zr;cases e:Nat.ble len i with
  | true=>have:=Al e;simp only [Ab,AZ,BM,hnew];have:(i - len+1)*sz≤n*sz:=AH sz (by omega);rw [AR,BI] at this;omega
  | false=>
   have: ¬len≤i:=fun h=>by rw [Bh h] at e;cases e
   exact hl _ (by omega)
 refine ⟨h1,?_⟩;have dR:=Ym (len+n) h1;have hlenN:=Ym N hl;have hd:((Yq N get).drop (off*sz)).length =len*sz:=by rw [BM,hlenN,←hN,AR];omega
 rw [AP (by omega)];apply List.ext_getElem?;intro i;by_cases hi:i<(len+n)*sz
 ·have hsz:0<sz:=by
   rcases BG sz with e | e
   ·rw [e,Nat.mul_zero] at hi;omega
   ·exact e
  have hj:i %sz<sz:=BY _ hsz;have hq:i / sz<len+n:=By (by rw [Bq];exact hi);have e:i=i / sz*sz+i %sz:=by rw [Bq];exact (B1 i sz).symm
  generalize i / sz=q at*;generalize i %sz=j at*;subst e;rw [Vw (len+n) h1 q j hq hj];unfold Zr;cases e:Nat.ble len q with
  | true=>
   have hle:=Al e;have:len*sz≤q*sz:=AH sz hle;simp only [Ab];rw [BO (by omega),hd,Cp,AC hj,Cc]
   congr 1
   rw [Nat.sub_mul];omega
  | false=>
   have hlt:q<len:=by
    rcases Bm q len with h | h
    ·exact h
    ·rw [Bh h] at e;cases e
   have:(q+1)*sz≤len*sz:=AH sz hlt;rw [AR,BI] at this;simp only [Aa];rw [Bx (by omega),Cc,←Vw N hl (off+q) j (by omega) hj]
   congr 1
   rw [AR];omega
 ·rw [BD (by omega),BD (by rw [Aw,hd,hnew,←AR];omega)]
theorem w5o (n:Nat) (z:List AVal):rep n z=Yq n fun _=>z:=by unfold rep Yq;rw [List.flatMap_def,List.map_const',Ch]
theorem Ev.remem {ρ':Rho} {floor:Nat} {m m' m'':Mem} {n n':Nat} {w w':World} (h:Ev ρ ρ' floor m n m' n' w w') (hm: ∀b,b<n→ ∀cs ty,Yn m b=some ⟨cs,ty,none⟩→Yn m'' b=Yn m' b):Ev ρ ρ' floor m n m'' n' w w':=
 ⟨h.ext,h.new,h.nxt,fun b hb e cs ty hc=>by rw [hm b hb cs ty hc];exact h.unborn b hb e cs ty hc,h.frame,h.fresh,h.size,h.os,h.tape,h.output,h.still⟩
theorem Rel.remem {mem mem':Mem} {next:Nat} {w:World} (h:Rel ρ mem next w) (hm: ∀b,Yn mem' b=Yn mem b):Rel ρ mem' next w:=
 ⟨h.dom,fun b b' l l' e e' he hs hs'=>h.inj b b' l l' e e' he (by rw [←hm];exact hs) (by rw [←hm];exact hs'),fun b l ab e hc=>h.blk b l ab e (by rw [←hm];exact hc),h.old,fun b l e hs=>h.sep b l e (by rw [←hm];exact hs),h.real,fun b hb=>by rw [hm];exact h.bd b hb,h.ldom⟩
theorem y2l {cx:Ctx} {st st':St} {w:World} (h:Rel ρ st.mem st.next w) {t:TypeId} {x y v:AVal} {ux uy:Value} (hb:Kj P cx st t x y=some (v,st')) (hob:st'.ob=true) (hx:Yw ρ x ux) (hy:Yw ρ y uy):
  ∃ρ' u w',(Instr.makeSlice t ux uy).run P w=.ok u w'∧x5k ρ cx.floor st st' v w ρ' u w':=by
 unfold Kj at hb;split at hb
 ·rename_i e kl l kc c hu;split at hb
  ·rename_i i zero hi hz;cases eW:(Nat.beq zero.length i.size&&Nat.ble 1 i.size) with
   | false=>rw [eW] at hb;cases hb
   | true=>
    rw [eW,Ab] at hb;simp only [Ac] at eW;obtain ⟨k1,k2⟩:=eW;have hzl:=Ak k1;simp only [Aq,Ad] at hb;obtain ⟨st1,ho,rfl,rfl⟩:=hb;obtain ⟨o1,o2,o3,o4⟩:=z9n ho;obtain ⟨hc,_⟩:=o4 hob;have m2:st1.mem=Wz st.mem st.next (some ⟨Yq c.toNat fun _=>zero,e,some ⟨i.size,c.toNat,.flat fun _=>zero⟩⟩):=o2
    have n2:st1.next=st.next+1:=o3
    have h0:Um P st t (.int kl l) (.int kc c)=some (.sl st.next 0 l.toNat (.ex c.toNat),y2k st (rep c.toNat zero) e):=by unfold Um;simp only [hu,hi,hz,k1,hc,Bool.and_self,Ab]
    obtain ⟨ρ',uv,w',dS,hp,_,_⟩:=z0c h cx.floor h0 hx hy;refine ⟨ρ',uv,w',dS,?_,?_,?_⟩
    ·have hv:=hp.val;cases hv with
     | sl _ _ _ _ l' c' hρ' fF fV=>
      have hbk:=hp.rel.blk st.next l' ⟨rep c.toNat zero,e,none⟩ hρ' (Yj _ _ _)
      have hcn:c'=c.toNat:=fF;have q1:=hbk.n;have q2:=hbk.tot;simp only [z0r,hzl] at q1;have:=Yw.sla (ρ:=ρ') st.next i.size 0 l.toNat (.un i.size) l' c' hρ' (by simp only [z1q,Bi,Ag,hcn];omega) fV
      rw [Bi] at this;exact this
    ·have hr:Rel ρ' (Wz st.mem st.next (some ⟨rep c.toNat zero,e,none⟩)) (st.next+1) w':=hp.rel;rw [w5o] at hr;rw [m2,n2];exact hr.setArr ⟨i.size,c.toNat,_⟩ rfl (Al k2) fun _ _=>hzl
    ·rw [m2,n2];refine hp.ev.remem fun b' hb' cs ty hcs=> ?_;show _=Yn (Wz st.mem st.next _) b';rw [Zw _ _ (by omega),Zw _ _ (by omega)]
  ·cases hb
 ·cases hb
theorem z7g {cx:Ctx} {st st':St} {w:World} (h:Rel ρ st.mem st.next w) {ts:Array TypeId} {type:TypeId} {xs:List AVal} {us:Array Value} {v:AVal} (ha:z4h P cx st ts.toList xs=some (v,st')) (hob:st'.ob=true) (hx:Vj (Yw ρ) xs us.toList):
  ∃ρ' u w',(Builtin.append_ ts type us).run P w=.ok u w'∧x5k ρ cx.floor st st' v w ρ' u w'∧ ∀b sz off len z r blk l,xs=.sla b sz off len (.un z)::r→Yn st.mem b=some blk→ρ b=some l→Jz ρ w' blk l:=by
 obtain ⟨ul⟩:=us;simp only at hx;unfold z4h at ha;split at ha
 ·rename_i t u tr b sz off len z x xr hts;split at ha
  ·rename_i e ut hu hut;split at ha
   ·cases ha
   ·rename_i hni;split at ha
    ·rename_i i hi;split at ha
     ·rename_i n new zero blk hc hz hm;split at ha
      ·rename_i A hA;cases eW:(Nat.beq zero.length i.size&&Nat.beq new.length (n*i.size)&&Nat.ble 1 i.size&&new.all y1u&&Nat.beq sz i.size&&Nat.beq z sz&&Nat.ble cx.floor b&&Nat.ble 1 n) with
       | false=>rw [eW] at ha;cases ha
       | true=>
        rw [eW,Ab] at ha;have hchk0:=eW;simp only [Ac] at eW;obtain ⟨⟨⟨⟨⟨⟨⟨k1,k2⟩,k3⟩,k4⟩,k5⟩,k6⟩,k7⟩,k8⟩:=eW;obtain rfl:=Ak k5;obtain rfl:=Ak k6;have hnl:=Ak k2;have hsz1:=Al k3;have hfl:=Al k7;have hn1:=Al k8;simp only [Aq,Ad] at ha;obtain ⟨st1,ho,rfl,rfl⟩:=ha;obtain ⟨o1,o2,o3,o4⟩:=z9n ho;obtain ⟨hb,_⟩:=o4 hob;simp only [Ac,As] at hb;obtain ⟨hAs,hfull,dX⟩:=hb;have hAs:=Ak hAs;have hbn:b<st.next:=by
         rcases Bm b st.next with g | g
         ·exact g
         ·rw [h.bd b g] at hm;cases hm
        have m2:st1.mem=Wz (Wz st.mem b none) st.next (some ⟨Yq (len+n) (Zr A.get off len i.size new),e,some ⟨i.size,len+n,Zr A.get off len i.size new⟩⟩):=o2
        have n2:st1.next=st.next+1:=o3
        cases hx with
        | cons ha0 hr=>
         cases ha0 with
         | sla _ _ _ _ _ l c hρ dW dR=>
          obtain ⟨eV,fW,eF⟩:=(h.blk b l blk hρ hm).arr A hA;rw [hAs] at eF;obtain ⟨q1,q2⟩:=w5e (new:=new) eF hfull hnl;have hlenr:=Ym A.n eF;have gC:off*i.size+len*i.size=A.n*i.size:=(by rw [←AR,hfull]);have hcut:cut blk.cells (off*i.size) (len*i.size)=some ((blk.cells.drop (off*i.size)).take (len*i.size)):=by
           unfold cut;simp only;rw [show Nat.beq ((blk.cells.drop (off*i.size)).take (len*i.size)).length (len*i.size)=true from by
            rw [Nat.beq_eq];simp [eV,hlenr];omega]
           rfl
          have hroom':Nat.ble ((len+n+1)*(i.bytes+1)) Jh=true:=Bh dX;have hnot:Nat.ble (off*i.size+(len+n)*i.size) blk.cells.length=false:=by
           have:1*i.size≤n*i.size:=AH _ hn1;cases g:Nat.ble (off*i.size+(len+n)*i.size) blk.cells.length with
           | false=>rfl
           | true=>have:=Al g;rw [eV,hlenr,AR] at this;omega
          have hat:Nat.beq (off*i.size+len*i.size) blk.cells.length=true:=(by rw [eV,hlenr,gC,Nat.beq_eq]);have h0:z1i P cx.floor st ts.toList (.sl b (off*i.size) len (.un i.size)::x::xr)=some (.sl st.next 0 (len+n) (.un i.size),y2k (st.withMem (Wz st.mem b none)) (((blk.cells.drop (off*i.size)).take (len*i.size))++new) e):=by
           rw [hts];unfold z1i;simp only [hu,hut,hi,hz];cases ut <;> first
            | (exfalso;exact hni _ rfl)
            | (simp only [Ut,hc,k1,k2,k3,k4,hm,hcut,hroom',k7,hnot,hat,Bool.and_self,Ab,Aa,B3])
          obtain ⟨ρ',uv,w',dS,hp,_,hkeep⟩:=z0o (type:=type) h cx.floor h0 (us:=⟨_⟩) (.cons (.sl _ _ _ _ l c hρ dW dR) hr);refine ⟨ρ',uv,w',dS,⟨?_,?_,?_⟩,fun b' sz' off' len' z' r' blk' l' e hm' hl'=> ?_⟩
          rotate_left 3
          ·injection e with e1 _;injection e1 with f1 _ _ _ _;subst f1;rw [hm] at hm';obtain rfl:=Af hm';have hxs: ∃b2 o2 c2,x=.sl b2 o2 n c2:=by
            unfold Xv at hc;split at hc
            ·simp only [Ae,Ad] at hc;omega
            ·split at hc
             ·simp only [Aq,Ad] at hc;obtain ⟨_,_,rfl,_⟩:=hc;exact ⟨_,_,_,rfl⟩
             ·cases hc
            ·cases hc
           obtain ⟨b2,o2,c2,rfl⟩:=hxs;exact hkeep.1 _ _ _ _ _ _ _ _ _ _ _ rfl hn1 hm (by rw [eV,hlenr,gC]) hl'
          ·have hv:=hp.val;cases hv with
           | sl _ _ _ _ l' c' hρ' fF fV=>
            have:=Yw.sla (ρ:=ρ') st.next i.size 0 (len+n) (.un i.size) l' c' hρ' (by rw [Bi];exact fF) fV
            rw [Bi] at this;exact this
          ·have hr:=hp.rel;rw [m2,n2];have hr:Rel ρ' (Wz (Wz st.mem b none) st.next (some ⟨((blk.cells.drop (off*i.size)).take (len*i.size))++new,e,none⟩)) (st.next+1) w':=hr;rw [eV,←q2] at hr;exact hr.setArr ⟨i.size,len+n,_⟩ rfl hsz1 q1
          ·rw [m2,n2];refine hp.ev.remem fun b' hb' cs ty hcs=> ?_;have hne:b'≠b:=fun e=>by rw [e,hm] at hcs;cases hcs;cases hA
           show _=Yn (Wz (Wz st.mem b none) st.next _) b';rw [Zw _ _ (by omega),Zw _ _ hne,Zw _ _ (by omega),Zw _ _ hne]
         | slan=>
          have hq:=w5e (get:=fun _=>List.replicate i.size AVal.undef) (off:=0) (len:=0) (N:=0) (new:=new) (fun i hi=>absurd hi (AO _)) rfl hnl;have hfe:Zr (fun _=>List.replicate i.size AVal.undef) 0 0 i.size new=Zr A.get off 0 i.size new:=rfl;rw [hfe] at hq;obtain ⟨q1,q2⟩:=hq;have hn0:Nat.beq n 0=false:=by cases n with | zero=>omega | succ n=>rfl
          have hroom':Nat.ble ((n+1)*(i.bytes+1)) Jh=true:=Bh (by rw [Ag] at dX;exact dX);have h0:z1i P cx.floor st ts.toList (.nils ::x::xr)=some (.sl st.next 0 n (.un i.size),y2k st new e):=by
           rw [hts];unfold z1i;simp only [hu,hut,hi,hz];cases ut <;> first
            | (exfalso;exact hni _ rfl)
            | (simp only [Ut,hc,k1,k2,k3,k4,hn0,hroom',Bool.and_self,Ab,Aa])
          obtain ⟨ρ',uv,w',dS,hp,_,hkeep⟩:=z0o (type:=type) h cx.floor h0 (us:=⟨_⟩) (.cons .nils hr);refine ⟨ρ',uv,w',dS,⟨?_,?_,?_⟩,fun b' sz' off' len' z' r' blk' l' e hm' hl'=> ?_⟩
          rotate_left 3
          ·have hq:=h.blk b' l' blk' hl' hm';refine hq.world (Rho.le_refl ρ) ?_;obtain ⟨_,_,_,cs0,el0,g1,_⟩:=hq;rw [g1];exact hkeep.2 _ rfl _ _ g1
          ·have hv:=hp.val;rw [Ag];cases hv with
           | sl _ _ _ _ l' c' hρ' fF fV=>
            have:=Yw.sla (ρ:=ρ') st.next i.size 0 n (.un i.size) l' c' hρ' (by rw [Bi];exact fF) fV
            rw [Bi] at this;exact this
          ·have hr:Rel ρ' (Wz st.mem st.next (some ⟨new,e,none⟩)) (st.next+1) w':=hp.rel;have hr:=hr.kill b;have hr:Rel ρ' (Wz (Wz st.mem b none) st.next (some ⟨new,e,none⟩)) (st.next+1) w':=hr.remem fun b'=>by
            simp only [Vk];by_cases e1:b'=st.next
            ·rw [AC e1,Ay (by omega),AC e1]
            ·rw [Ay e1,Ay e1]
           rw [show new=Yq (0+n) (Zr A.get off 0 i.size new) by rw [q2];simp] at hr;rw [m2,n2];have:=hr.setArr ⟨i.size,0+n,Zr A.get off 0 i.size new⟩ rfl hsz1 q1;exact this
          ·rw [m2,n2];refine hp.ev.remem fun b' hb' cs ty hcs=> ?_;have hne:b'≠b:=fun e=>by rw [e,hm] at hcs;cases hcs;cases hA
           show _=Yn (Wz st.mem st.next _) b';rw [Zw _ _ (by omega),Zw _ _ hne,Zw _ _ (by omega)]
      ·cases ha
     ·cases ha
    ·cases ha
  ·cases ha
 ·cases ha
theorem Rel.ghost {mem:Mem} {next:Nat} {w:World} (h:Rel ρ mem next w) (o:Option ABlk):Rel ρ (Wz mem next o) (next+1) w:=by
 have ne: ∀c l,ρ c=some l→c≠next:=fun c l e=>A7 (h.dom c l e)
 refine ⟨fun c l e=>BQ (h.dom c l e),fun c c' m m' e e' he hs hs'=> ?_,fun c m ac e hc=> ?_,h.old,fun c m e hs=> ?_,h.real,fun c hc=> ?_,fun j l e=>BQ (h.ldom j l e)⟩
 ·rw [Zw _ _ (ne _ _ e)] at hs;rw [Zw _ _ (ne _ _ e')] at hs';exact h.inj c c' m m' e e' he hs hs'
 ·rw [Zw _ _ (ne _ _ e)] at hc;exact h.blk c m ac e hc
 ·rw [Zw _ _ (ne _ _ e)] at hs;exact h.sep c m e hs
 ·rw [Zw _ _ (by omega)];exact h.bd c (by omega)
theorem Ev.ghost {mem:Mem} {next:Nat} {w:World} (h:Rel ρ mem next w) (floor:Nat) (o:Option ABlk):Ev ρ ρ floor mem next (Wz mem next o) (next+1) w w where
 ext:=Rho.le_refl _
 new _ _:=rfl
 nxt:=Cs _
 unborn k hk _ cs ty hm:=by rw [Zw _ _ (A7 hk)];exact hm
 frame _ _ hk _:=hk
 fresh k m hk e:=by have:=h.dom k m e;omega
 size:=Ar _
 os:=rfl
 tape:=rfl
 output:=rfl
 still _ _:=rfl
theorem v8f {mem:Mem} {next:Nat} {w:World} (h:Rel ρ mem next w) {n sz:Nat} {g:Nat→List AVal} {ux:Value} (hx:Yw ρ (.dat n g) ux) (hg: ∀i,i<n→(g i).length =sz) (hsz:1≤sz):
  (∀w,(Builtin.lenOf ux).run P w=.ok n w)∧ ∃vs:Array Value,Ue ρ (Yq n g) vs∧ ∀d,(Builtin.firstCells sz n ux).run P {w with drawn:=d}=.ok vs {w with drawn:=d}:=by
 cases hx with
 | datn=>exact ⟨fun w=>by simp [Builtin.lenOf], #[],⟨by simp [Yq],fun i h1 h2=>by simp [Yq] at h1⟩,fun d=>by simp [Builtin.firstCells]⟩
 | datz=>exact ⟨fun w=>by simp [Builtin.lenOf], #[],⟨by simp [Yq],fun i h1 h2=>by simp [Yq] at h1⟩,fun d=>by simp [Builtin.firstCells,loadCells,loadCellsFrom]⟩
 | dat _ _ blk base sz' cap val dW fS hv hh=>
  refine ⟨fun w=>by simp [Builtin.lenOf],?_⟩;have hl:=Ym n hg;have hdiv: ∀k,k<n*sz→k / sz<n∧k %sz<sz∧k / sz*sz+k %sz=k:=fun k hk=>
   ⟨By (by rw [Bq];exact hk),BY _ hsz,by rw [Bq];exact B1 k sz⟩
  have eL: ∀(d k:Nat),k<n*sz→({w with drawn:=d}:World).cell? ((⟨blk,base,none⟩:Addr).add k)=some (val (k / sz) (k %sz)):=by
   intro d k hk;obtain ⟨hq,hj,e4⟩:=hdiv k hk;have hs:sz'=sz:=by rw [←fS _ hq,hg _ hq]
   obtain ⟨cs,el,fz,e1,e2⟩:=hh (k / sz) (k %sz) hq (by omega);have e3:=h.old _ _ e1;rw [hs,e4] at e2;rw [Xb];simp only [World.cell?,e3];exact e2
  refine ⟨_,⟨?_,?_⟩,fun d=>by simp only [Builtin.firstCells];exact run_loadCells _ _ _ (fun k=>val (k / sz) (k %sz)) (eL d)⟩
  ·simp [hl]
  ·intro k h1 h2;obtain ⟨hq,hj,e4⟩:=hdiv k (by rw [←hl];exact h1);have hj':k %sz<(g (k / sz)).length :=by rw [hg _ hq];exact hj
   have hr:=Vw n hg (k / sz) (k %sz) hq hj;rw [e4,Ao h1,Ao hj'] at hr;rw [Af hr]
   simpa using (hv (k / sz) (k %sz) hq hj').mono (x4v ρ)
theorem y4p {g:Nat→List AVal} {p:AVal→Bool} (n:Nat) (h: ∀i,i<n→(g i).all p=true):(Yq n g).all p=true:=by refine At.2 fun a ha=> ?_;unfold Yq at ha;obtain ⟨i,hi,hai⟩:=AN.1 ha;exact At.1 (h i (A0.1 hi)) a hai
theorem z5e {get:Nat→List AVal} {sz N off len:Nat} (hl: ∀i,i<N→(get i).length =sz) (h:off+len≤N):Yq len (fun k=>get (off+k))=((Yq N get).drop (off*sz)).take (len*sz):=by
 have h1: ∀k,k<len→(get (off+k)).length =sz:=fun k hk=>hl _ (by omega);have hL:=Ym len h1;have hN:=Ym N hl;have hm:(off+len)*sz≤N*sz:=AH _ h;rw [AR] at hm;apply List.ext_getElem?;intro i;by_cases hi:i<len*sz
 ·have hsz:0<sz:=by
   rcases BG sz with e | e
   ·rw [e,Nat.mul_zero] at hi;omega
   ·exact e
  have hj:i %sz<sz:=BY _ hsz;have hq:i / sz<len:=By (by rw [Bq];exact hi);have e:i / sz*sz+i %sz=i:=by rw [Bq];exact B1 i sz
  have a1:=Vw len h1 (i / sz) (i %sz) hq hj;have a2:=Vw N hl (off+i / sz) (i %sz) (by omega) hj;rw [e] at a1;rw [a1,Cp,AC hi,Cc,←a2]
  congr 1
  rw [AR];omega
 ·rw [BD (by omega),BD (by simp;omega)]
theorem x2w {mem:Mem} {next:Nat} {w:World} (h:Rel ρ mem next w) {t u e:TypeId} {ut:TypeDesc} {i:TypeInfo} {z:Value} {zero:List AVal} {x:AVal} {ux:Value} {n:Nat} {g:Nat→List AVal} {o:Bool} (hu:P.underlying t=some (.slice e)) (hut:P.underlying u=some ut) (hi:P.info? e=some i) (hz:i.zero=some z)
  (hzr:Ue ρ zero z.cells) (hzl:zero.length=i.size) (hzs:zero.all y1u=true) (hsz:1≤i.size) (hc:x2x mem i.size zero ut x=some (n,g,o)) (ho:o=true) (hx:Yw ρ x ux):
  (∀k,k<n→(g k).length =i.size)∧ ∃vs,u5q P ρ t u e i z ux n (Yq n g) vs w∧ ∀v∈vs.toList,v.oneCell'=true:=by
 subst ho;unfold x2x at hc;split at hc
 ·rename_i k m;split at hc
  ·rename_i kt;simp only [Ae,Ad] at hc;obtain ⟨rfl,rfl,h0⟩:=hc;have hcs:Ut mem i.size zero (.int kt) (.int k m)=some (m.toNat,rep m.toNat zero):=by unfold Ut;simp only [h0,Ab]
   obtain ⟨vs,hF⟩:=Jr (P:=P) (u:=u) (t:=t) h hu hut hi hz hzr hzl hcs hx (by rw [z0r,hzl]);rw [w5o] at hF;exact ⟨fun _ _=>hzl,vs,hF,Yw.cells_oneCell hF.rel (y4p _ fun _ _=>hzs)⟩
  ·cases hc
 ·rename_i nn gg;split at hc
  ·cases hc
  ·rename_i hni;simp only [Ae,Ad] at hc;obtain ⟨rfl,rfl,h0⟩:=hc;have hp:= @AA _ (Classical.propDecidable _) h0;obtain ⟨dR,vs,hvs,hfc⟩:=v8f (P:=P) h hx (fun i hi=>(hp i hi).1) hsz;have fG:(Builtin.firstCells i.size nn ux).run P w=.ok vs w:=hfc w.drawn;have hfc1:(Builtin.firstCells i.size nn ux).run P w.drew=.ok vs w.drew:=hfc (w.drawn+1);exact ⟨fun i hi=>(hp i hi).1,vs,⟨hvs,fun _ dX _ hst hno=>z8t hu hut (fun k e=>hni k e) hi (dR w) fG dX hst hno,fun hold dX fE=>z6v hu hut (fun k e=>hni k e) hi hz (dR w) hfc1 hold dX fE⟩,
    Yw.cells_oneCell hvs (y4p _ fun i hi=>(hp i hi).2)⟩
 ·split at hc
  ·cases hc
  ·rename_i hni;simp only [Ae,Ad] at hc;obtain ⟨rfl,rfl,_⟩:=hc;have hcs:Ut mem i.size zero ut .nils =some (0,[]):=by
    unfold Ut;split
    ·rename_i k;exact absurd rfl (hni k)
    ·rfl
   obtain ⟨vs,hF⟩:=Jr (P:=P) (u:=u) (t:=t) h hu hut hi hz hzr hzl hcs hx (by simp);exact ⟨fun k hk=>absurd hk (AO _),vs,hF,Yw.cells_oneCell hF.rel rfl⟩
 ·rename_i b zz off len0 cap;split at hc
  ·cases hc
  ·rename_i hni;split at hc
   ·rename_i cells ty A hm;simp only [Ae,Ad,Ac,As] at hc;obtain ⟨rfl,rfl,h1,h2,eA,h4⟩:=hc;have hp:= @AA _ (Classical.propDecidable _) h4;have h1:=Ak h1;have h2:=Ak h2;subst h1;have nc: ∀v,Ut mem i.size zero ut v=Xv mem i.size v:=fun v=>by
     unfold Ut;split
     ·rename_i k;exact absurd rfl (hni k)
     ·rfl
    cases hx with
    | sla _ _ _ _ _ l c hρ dW hlc=>
     obtain ⟨eV,fW,eF⟩:=(h.blk b l _ hρ hm).arr A rfl;rw [h2] at eF;simp only at eV;have hrp:=z5e eF eA;have hlr:=Ym A.n eF;have hm2:(off+len0)*i.size≤A.n*i.size:=AH _ eA;rw [AR] at hm2;have dR:((cells.drop (off*i.size)).take (len0*i.size)).length =len0*i.size:=by rw [AZ,BM,eV,hlr];omega
     have hcut:cut cells (off*i.size) (len0*i.size)=some ((cells.drop (off*i.size)).take (len0*i.size)):=by unfold cut;simp only;rw [show Nat.beq ((cells.drop (off*i.size)).take (len0*i.size)).length (len0*i.size)=true from by rw [Nat.beq_eq];exact dR];rfl
     have hcs:Ut mem i.size zero ut (.sl b (off*i.size) len0 (.ex c))=some (len0,(cells.drop (off*i.size)).take (len0*i.size)):=by rw [nc];simp [Xv,hm,hcut]
     obtain ⟨vs,hF⟩:=Jr (P:=P) (u:=u) (t:=t) h hu hut hi hz hzr hzl hcs (.sl b (off*i.size) len0 (.ex c) l c hρ rfl hlc) dR;rw [eV,←hrp] at hF;exact ⟨fun k hk=>(hp k hk).1,vs,hF,Yw.cells_oneCell hF.rel (y4p _ fun k hk=>(hp k hk).2)⟩
    | slan=>
     have hcs:Ut mem i.size zero ut .nils =some (0,[]):=by rw [nc];rfl
     obtain ⟨vs,hF⟩:=Jr (P:=P) (u:=u) (t:=t) h hu hut hi hz hzr hzl hcs .nils (by simp);exact ⟨fun k hk=>absurd hk (AO _),vs,hF,Yw.cells_oneCell hF.rel rfl⟩
   ·cases hc
 ·cases hc
def j8r (P:Program) (ρ:Rho) (floor:Nat) (mem mem':Mem) (next:Nat) (sz:Nat) (e:TypeId) (N:Nat) (G:Nat→List AVal) (w:World) (r:World→Result Value):Prop:=
 ∃ρ' u w',r w=.ok u w'∧Yw ρ' (.sla next sz 0 N (.un sz)) u∧Rel ρ' (Wz mem' next (some ⟨Yq N G,e,some ⟨sz,N,G⟩⟩)) (next+1) w'∧Ev ρ ρ' floor mem next (Wz mem' next (some ⟨Yq N G,e,some ⟨sz,N,G⟩⟩)) (next+1) w w'
theorem y7w {mem:Mem} {next:Nat} {w:World} (h:Rel ρ mem next w) (floor:Nat) {t u e:TypeId} {type:TypeId} {ts:List TypeId} {xs:List Value} {i:TypeInfo} {z ux:Value} {n:Nat} {new:List AVal} {vs:Array Value} (hF:u5q P ρ t u e i z ux n new vs w)
  (eU: ∀v∈vs.toList,v.oneCell'=true) (hnl:new.length=n*i.size) (hzs:z.cells.size=i.size) (hsz:1≤i.size) {len c off b:Nat} {l:Loc} {blk:ABlk} (hrm:(len+n+1)*(i.bytes+1)≤Jh)
  (hρ:ρ b=some l) (hm:Yn mem b=some blk) (hfl:floor≤b) (hoff:off+len*i.size≤blk.cells.length) (hlc:len≤c) (dW:(l.n≤off+c*i.size∧off+c*i.size≤l.tot)∨c≤len)
  {G:Nat→List AVal} (hG:Yq (len+n) G=(blk.cells.drop off).take (len*i.size)++new) (hGl: ∀k,k<len+n→(G k).length =i.size):
  j8r P ρ floor mem (Wz mem b none) next i.size e (len+n) G w fun w=>(Builtin.append_ (t::u::ts).toArray type ((.slice (some ⟨l.blk,l.base+off,none⟩) len c)::ux::xs).toArray).run P w:=by
 have hvs:=hF.rel;have hvsz:vs.size=n*i.size:=by rw [←hvs.1];exact hnl
 have hbk:=h.blk b l blk hρ hm;have hln:=hbk.n;have htot:=hbk.tot;have gC:(len+n)*i.size=len*i.size+n*i.size:=AR _ _ _;have hcut:cut blk.cells off (len*i.size)=some ((blk.cells.drop off).take (len*i.size)):=by unfold cut;simp only;rw [show Nat.beq ((blk.cells.drop off).take (len*i.size)).length (len*i.size)=true from by rw [Nat.beq_eq];simp;omega];rfl
 have hcos:Xv mem i.size (.sl b off len (.ex c))=some (len,(blk.cells.drop off).take (len*i.size)):=by simp [Xv,hm,hcut]
 have fX:((blk.cells.drop off).take (len*i.size)).length =len*i.size:=by simp;omega
 obtain ⟨_,hfo⟩:=Vq (P:=P) h hcos (.sl b off len (.ex c) l c hρ rfl hlc) fX;obtain ⟨ovs,hovs,hof⟩:=hfo len (Ar _);rw [AP (by omega)] at hovs;have hovz:ovs.size=len*i.size:=by rw [←hovs.1];exact fX
 have hof1:(Builtin.firstCells i.size len (.slice (some ⟨l.blk,l.base+off,none⟩) len c)).run P w.drew=.ok ovs w.drew:=hof (w.drawn+1);have hrn:n=0∨(n+1)*(i.bytes+1)≤1099511627776:=.inr (AK (AH _ (by omega)) hrm);by_cases dX:len+n≤c
 ·-- there is Jh
  have hcm:(len+n)*i.size≤c*i.size:=AH _ dX;obtain ⟨T,t1,t2,t3⟩: ∃T,off+len*i.size - off+new.length≤T∧off+T≤l.tot∧c*i.size≤T:=by
   rcases dW with ⟨c1,c2⟩ | c1
   ·exact ⟨l.tot - off,by omega,by omega,by omega⟩
   ·have:n=0:=(by omega);subst this;have:c=len:=(by omega);subst this;exact ⟨c*i.size,by omega,by omega,by omega⟩
  obtain ⟨cur,el,hw,fR,dQ⟩:=h.beyond2 hρ hm (off:=off) (m:=off+len*i.size) (T:=T) (new:=new) (vs:=vs.toList) e (by simpa using hvs.1.symm) (by omega) hoff t1 t2 (fun j h1 h2=>by simpa using hvs.2 j h1 (by simpa using h2));have hst:=run_storeCells_at P l.blk (l.base+off+len*i.size) el vs.toList 0 cur w hw (by rw [A3,AB l.base];exact fR) eU;rw [A3] at hst;have dS:=hF.hin (type:=type) (ts:=ts) (base:=some ⟨l.blk,l.base+off,none⟩) (len:=len) (c:=c) (xs:=xs) hrn dX (w':=w.setRow l.blk (cur.toList.take (l.base+off+len*i.size)++vs.toList++cur.toList.drop (l.base+off+len*i.size+vs.toList.length)).toArray)
   (fun a e=>by cases e;rw [Xb];exact hst) (fun e=>by cases e)
  have hdt:(blk.cells.take (off+len*i.size)).drop off=(blk.cells.drop off).take (len*i.size):=by rw [List.drop_take];congr 1;omega
  rw [hdt,←hG,←AB] at dQ;refine ⟨_,_,_,dS,?_,dQ.setArr ⟨i.size,len+n,G⟩ rfl hsz hGl,?_⟩
  ·have:=Yw.sla (ρ:=Uw ρ next ⟨l.blk,l.base+off,off+len*i.size - off+new.length,T⟩) next i.size 0 (len+n) (.un i.size) ⟨l.blk,l.base+off,off+len*i.size - off+new.length,T⟩ c (by simp [Uw])
    (by simp only [z1q,Bi,Ag];omega) (by omega)
   rw [Bi] at this;exact this
  ·exact Ev.ofBeyond h hρ hfl ⟨l.blk,l.base+off,off+len*i.size - off+new.length,T⟩ rfl _ _
 ·-- a new row
  let st:St:=⟨.leaf,mem,next,[],true⟩
  have eX:Rel ρ (st.withMem (Wz mem b none)).mem (st.withMem (Wz mem b none)).next w:=h.kill b
  obtain ⟨newCap,fF,rest,eQ,dS⟩:=hF.hnew (type:=type) (ts:=ts) (base:=some ⟨l.blk,l.base+off,none⟩) (len:=len) (c:=c) (xs:=xs) hof1 (by omega) (by simpa [Jh] using hrm);have hov:=hovs.append hvs;have hsum:(ovs++vs).size +rest.size=newCap*i.size:=by rw [BR,hovz,hvsz,eQ,hzs,←AR,←AR];congr 1;omega
  have hp:=z6d eX floor hov rest e e (.sla next i.size 0 (len+n) (.un i.size)) (.slice (some ⟨w.heap.size,0,none⟩) (len+n) newCap) (fun ρ' hρ'=>by
   have:=Yw.sla (ρ:=ρ') next i.size 0 (len+n) (.un i.size) _ newCap hρ' (by
    simp only [z1q];rw [hsum];exact ⟨by rw [Bi,Ag,Aw,fX,hnl,←AR];exact AH _ fF,by omega⟩) fF
   rw [Bi] at this;exact this)
  rw [←hG] at hp;refine ⟨Uw ρ next ⟨w.heap.size,0,(Yq (len+n) G).length,(ovs++vs).size +rest.size⟩,_,_,dS,hp.val,?_,?_⟩
  ·exact Rel.setArr hp.rel ⟨i.size,len+n,G⟩ rfl hsz hGl
  ·refine ((Ev.ofKill h floor hρ).trans hp.ev).remem fun b' hb' cs ty hcs=> ?_;have hne: ¬b'=next:=A7 hb'
   show Yn (Wz (Wz mem b none) next _) b'=Yn (Wz (Wz mem b none) next _) b';simp only [Vk,Ay hne]
theorem x7g {mem:Mem} {next:Nat} {w:World} (h:Rel ρ mem next w) (floor:Nat) {t u e:TypeId} {type:TypeId} {ts:List TypeId} {xs:List Value} {i:TypeInfo} {z ux:Value} {n:Nat} {new:List AVal} {vs:Array Value} (hF:u5q P ρ t u e i z ux n new vs w)
  (hnl:new.length=n*i.size) (hzs:z.cells.size=i.size) (hsz:1≤i.size) (hrm:(0+n+1)*(i.bytes+1)≤Jh) {G:Nat→List AVal} (hG:Yq (0+n) G=new) (hGl: ∀k,k<0+n→(G k).length =i.size):
  j8r P ρ floor mem mem next i.size e (0+n) G w fun w=>(Builtin.append_ (t::u::ts).toArray type ((.slice none 0 0)::ux::xs).toArray).run P w:=by
 have hvs:=hF.rel;have hvsz:vs.size=n*i.size:=by rw [←hvs.1];exact hnl
 rcases BG n with hn0 | hnpos
 ·subst hn0;have dS:=hF.hin (type:=type) (ts:=ts) (base:=none) (len:=0) (c:=0) (xs:=xs) (.inl rfl) (Ar _) (w':=w) (fun a e=>by cases e) (fun _=>rfl);exact ⟨ρ,_,w,dS,.slan _ _ _ _,h.ghost _,Ev.ghost h floor _⟩
 ·obtain ⟨newCap,dW,rest,eQ,dS⟩:=hF.hnew (type:=type) (ts:=ts) (base:=none) (len:=0) (c:=0) (xs:=xs) (old:= #[]) (by simp [Builtin.firstCells]) (by omega) (by simpa [Jh] using hrm);have e0:(#[]:Array Value)++vs=vs:=by simp
  rw [e0] at dS;have hsum:vs.size+rest.size=newCap*i.size:=by rw [hvsz,eQ,hzs,←AR];congr 1;omega
  let st:St:=⟨.leaf,mem,next,[],true⟩
  have eX:Rel ρ st.mem st.next w:=h
  have hp:=z6d eX floor hvs rest e e (.sla next i.size 0 (0+n) (.un i.size)) (.slice (some ⟨w.heap.size,0,none⟩) (0+n) newCap) (fun ρ' hρ'=>by
   have:=Yw.sla (ρ:=ρ') next i.size 0 (0+n) (.un i.size) _ newCap hρ' (by
    simp only [z1q];rw [hsum,hnl];exact ⟨by rw [Bi,Ag];exact AH _ (by omega),by omega⟩) dW
   rw [Bi] at this;exact this)
  rw [←hG] at hp;refine ⟨Uw ρ next ⟨w.heap.size,0,(Yq (0+n) G).length,vs.size+rest.size⟩,_,_,dS,hp.val,Rel.setArr hp.rel ⟨i.size,0+n,G⟩ rfl hsz hGl,?_⟩
  ·refine hp.ev.remem fun b' hb' cs ty hcs=> ?_;have hne: ¬b'=next:=A7 hb'
   show Yn (Wz mem next _) b'=Yn (Wz mem next _) b';simp only [Vk,Ay hne]
theorem Kc {α β:Type} {f g:α→List β}: ∀{l:List α},(∀a,a∈l→f a=g a)→l.flatMap f=l.flatMap g
 | [],_=>rfl
 | a::l,h=>by rw [Ct,Ct,h a (by simp),Kc fun b hb=>h b (by simp [hb])]
theorem y4o {get g:Nat→List AVal} {len n sz:Nat} (hl: ∀i,i<len→(get i).length =sz) (hg: ∀i,i<n→(g i).length =sz):
  (∀i,i<len+n→(Jm get len g i).length =sz)∧Yq (len+n) (Jm get len g)=Yq len get++Yq n g:=by
 have h1: ∀i,i<len+n→(Jm get len g i).length =sz:=fun i hi=>by
  unfold Jm;cases e:Nat.ble len i with
  | true=>have:=Al e;simp only [Ab];exact hg _ (by omega)
  | false=>
   have: ¬len≤i:=fun h=>by rw [Bh h] at e;cases e
   exact hl _ (by omega)
 refine ⟨h1,?_⟩;unfold Yq;rw [List.range_add,BS]
 congr 1
 ·refine Kc fun i hi=> ?_;have:=A0.1 hi;unfold Jm;rw [show Nat.ble len i=false from A4.2 fun e=>by have:=Al e;omega];rfl
 ·rw [List.flatMap_map];refine Kc fun i hi=> ?_;unfold Jm;rw [show Nat.ble len (len+i)=true from Bh (BJ _ _),Ab,Nat.add_sub_cancel_left]
theorem w0c {sz:Nat}: ∀(n:Nat) (l:List AVal),l.length=n*sz→Yq n (fun k=>(l.drop (k*sz)).take sz)=l∧ ∀k,k<n→((l.drop (k*sz)).take sz).length =sz:=by
 intro n l hl;have h1: ∀k,k<n→((l.drop (k*sz)).take sz).length =sz:=fun k hk=>by have:(k+1)*sz≤n*sz:=AH _ hk;rw [AR,BI] at this;simp;omega
 refine ⟨?_,h1⟩;have dR:=Ym n h1;apply List.ext_getElem?;intro i;by_cases hi:i<n*sz
 ·have hsz:0<sz:=by
   rcases BG sz with e | e
   ·rw [e,Nat.mul_zero] at hi;omega
   ·exact e
  have hj:i %sz<sz:=BY _ hsz;have hq:i / sz<n:=By (by rw [Bq];exact hi);have e:i / sz*sz+i %sz=i:=by rw [Bq];exact B1 i sz
  have:=Vw n h1 (i / sz) (i %sz) hq hj;rw [e] at this;rw [this,Cp,AC hj,Cc,e]
 ·rw [BD (by omega),BD (by omega)]
theorem y9n {cx:Ctx} {st st':St} {w:World} (h:Rel ρ st.mem st.next w) {ts:Array TypeId} {type:TypeId} {xs:List AVal} {us:Array Value} {v:AVal} (ha:z0p P cx st ts.toList xs=some (v,st')) (hob:st'.ob=true) (hx:Vj (Yw ρ) xs us.toList):
  ∃ρ' u w',(Builtin.append_ ts type us).run P w=.ok u w'∧x5k ρ cx.floor st st' v w ρ' u w':=by
 obtain ⟨ts⟩:=ts;obtain ⟨us⟩:=us;simp only at ha hx;unfold z0p at ha;split at ha
 ·rename_i t tu tts s x txs;cases hx with
  | @cons _ su _ _ hs hx=>
   cases hx with
   | @cons _ ux _ uxs hx _=>
    split at ha
    ·rename_i e ut hu hut;split at ha
     ·rename_i i zero hi hz;split at ha
      ·rename_i b len get o1 n g o2 ht hc;obtain ⟨i2,z,hi2,hz2,hzr,_⟩:=Wq (ρ:=ρ) hz;obtain rfl:i=i2:=by rw [hi] at hi2;exact Af hi2
       obtain ⟨eW,ha⟩:=z0n ha;simp only [Ac] at eW;obtain ⟨⟨⟨hzl,hzsc⟩,hsz⟩,hfl⟩:=eW;have hzl:=Ak hzl;have hsz:=Al hsz;have hzs:z.cells.size=i.size:=by rw [←hzr.1];exact hzl
       simp only [Aq,Ad] at ha;obtain ⟨st1,ho,rfl,rfl⟩:=ha;obtain ⟨_,m2,n2,o4⟩:=z9n ho;obtain ⟨hb,_⟩:=o4 hob;simp only [Ac,As] at hb;obtain ⟨hb1,hb2,hrm⟩:=hb;have m2:st1.mem=Wz (w2j st.mem b) st.next (some ⟨Yq (len+n) (Jm get len g),e,some ⟨i.size,len+n,Jm get len g⟩⟩):=m2
       have n2:st1.next=st.next+1:=n2
       obtain ⟨hgl,vs,hF,eU⟩:=x2w (P:=P) (u:=tu) (t:=t) h hu hut hi hz2 hzr hzl hzsc hsz hc hb2 hx;have hnl:=Ym n hgl
       suffices j8r P ρ cx.floor st.mem (w2j st.mem b) st.next i.size e (len+n) (Jm get len g) w fun w=>(Builtin.append_ (t::tu::tts).toArray type (su::ux::uxs).toArray).run P w by obtain ⟨ρ',u,w',dS,hv,hr,hev⟩:=this;exact ⟨ρ',u,w',dS,hv,by rw [m2,n2];exact hr,by rw [m2,n2];exact hev⟩
       unfold z5u at ht;split at ht
       ·simp only [Ae,Ad] at ht;obtain ⟨rfl,rfl,rfl,_⟩:=ht;cases hs;obtain ⟨q1,q2⟩:=y4o (get:=fun _=>[]) (len:=0) (fun i hi=>absurd hi (AO _)) hgl;exact x7g h cx.floor hF hnl hzs hsz hrm (by rw [q2];simp [Yq]) q1
       ·rename_i b0 off len0 cap;split at ht
        ·rename_i blk hm;split at ht
         ·rename_i old hold;obtain ⟨fQ,ht⟩:=z0n ht;simp only [Ac] at fQ;obtain ⟨fQ,hoff⟩:=fQ;have hoff:=Al hoff;simp only [Ae,Ad] at ht;obtain ⟨rfl,rfl,rfl,_⟩:=ht;obtain ⟨k1,k2,k3⟩:=z6j hold;obtain ⟨r1,r2⟩:=w0c len0 old k2;obtain ⟨q1,q2⟩:=y4o r2 hgl;cases hs with
          | sl _ _ _ _ l c hρ dW hlc=>
           have hbk:=h.blk b0 l blk hρ hm;have k4:off+len0*i.size≤blk.cells.length:=(by omega);refine y7w h cx.floor hF eU hnl hzs hsz hrm hρ hm (Al hfl) k4 hlc ?_ (by rw [q2,r1,k1]) q1;cases cap with
           | ex k=>exact .inr (by simp only [z1q] at dW;rw [dW];exact Al fQ)
           | un zz=>have:=Ak fQ;simp only [z1q] at dW;exact .inl (by rw [←this];exact dW)
         ·cases ht
        ·cases ht
       ·rename_i b0 zz off len0 cap;split at ht
        ·rename_i blk hm;split at ht
         ·rename_i A hA;obtain ⟨fQ,ht⟩:=z0n ht;simp only [Ae,Ad] at ht;obtain ⟨rfl,rfl,rfl,rfl⟩:=ht;simp only [Ac,As] at hb1;obtain ⟨hz1,hz2',eA⟩:=hb1;obtain rfl:=Ak hz1;have hAs:=Ak hz2';cases hs with
          | sla _ _ _ _ _ l c hρ dW hlc=>
           obtain ⟨eV,fW,eF⟩:=(h.blk b0 l blk hρ hm).arr A hA;rw [hAs] at eF;have hlr:=Ym A.n eF;have hgl0: ∀k,k<len0→(A.get (off+k)).length =i.size:=fun k hk=>eF _ (by omega);obtain ⟨q1,q2⟩:=y4o hgl0 hgl;have hm2:(off+len0)*i.size≤A.n*i.size:=AH _ eA;rw [AR] at hm2;refine y7w h cx.floor hF eU hnl hzs hsz hrm hρ hm (Al hfl) (by rw [eV,hlr];exact hm2) hlc ?_ (by rw [q2,z5e eF eA,eV]) q1;cases cap with
           | ex k=>exact .inr (by simp only [z1q] at dW;rw [dW];exact Al fQ)
           | un zz=>have:=Ak fQ;simp only [z1q] at dW;exact .inl (by rw [←this] at dW ⊢;exact dW)
          | slan=>
           obtain ⟨q1,q2⟩:=y4o (get:=fun k=>A.get (off+k)) (len:=0) (fun i hi=>absurd hi (AO _)) hgl;obtain ⟨ρ',u,w',dS,hv,hr,hev⟩:=x7g (P:=P) (type:=type) (ts:=tts) (xs:=uxs) h cx.floor hF hnl hzs hsz hrm (G:=Jm (fun k=>A.get (off+k)) 0 g) (by rw [q2];simp [Yq]) q1;have hbn:b0<st.next:=by
            rcases Bm b0 st.next with g | g
            ·exact g
            ·rw [h.bd b0 g] at hm;cases hm
           refine ⟨ρ',u,w',dS,hv,?_,?_⟩
           ·refine (hr.kill b0).remem fun b'=> ?_;simp only [w2j,Vk];by_cases e1:b'=st.next
            ·rw [AC e1,Ay (by omega),AC e1]
            ·rw [Ay e1,Ay e1]
           ·refine hev.remem fun b' hb' cs ty hcs=> ?_;have hne:b'≠b0:=fun e=>by rw [e,hm] at hcs;cases hcs;cases hA
            show Yn (Wz (Wz st.mem b0 none) st.next _) b'=Yn (Wz st.mem st.next _) b';rw [Zw _ _ (by omega),Zw _ _ hne,Zw _ _ (by omega)]
         ·cases ht
        ·cases ht
       ·cases ht
      ·cases ha
     ·cases ha
    ·cases ha
 ·cases ha
theorem w4i {st st':St} {w:World} (h:Rel ρ st.mem st.next w) (floor:Nat) {ts:Array TypeId} {type:TypeId} {xs:List AVal} {us:Array Value} {v:AVal} (ha:w4k P floor st ts.toList xs=some (v,st')) (hx:Vj (Yw ρ) xs us.toList):
  ∃ρ' u w',(Builtin.copy_ ts type us).run P w=.ok u w'∧x5k ρ floor st st' v w ρ' u w'∧st'.env=st.env∧st'.ob=st.ob:=by
 obtain ⟨ts⟩:=ts;obtain ⟨us⟩:=us;simp only at ha hx;unfold w4k at ha;split at ha
 ·rename_i t _ d x _;cases hx with
  | @cons _ ud _ _ hd hx=>
   cases hx with
   | @cons _ ux _ uxs hx _=>
    split at ha
    ·rename_i e hu;split at ha
     ·rename_i i hi;split at ha
      ·rename_i m src hcs;cases hc:(Nat.beq src.length (m*i.size)&&src.all y1u) with
       | false=>rw [hc] at ha;cases ha
       | true=>
        rw [hc,Ab] at ha;simp only [Ac] at hc;have hsl:=Ak hc.1;have hsc:=hc.2;obtain ⟨dR,eO⟩:=Vq (P:=P) h hcs hx hsl;split at ha
        ·cases hd;simp only [Ae,Ad] at ha;obtain ⟨rfl,rfl⟩:=ha;obtain ⟨vs,hvs,hfc⟩:=eO 0 (AD _);have fG:(Builtin.firstCells i.size 0 ux).run P w=.ok vs w:=hfc w.drawn;refine ⟨ρ,_,w,?_,⟨.int _ _,h,Ev.refl _ _ _ _ _ h.dom⟩,rfl,rfl⟩;simp [Builtin.copy_,run_underlying hu,dR,Zo hi,fG,goInt]
        ·rename_i dn dg;obtain ⟨hdn,ha'⟩:=z0n ha;clear ha;obtain rfl:=Ak hdn;simp only [Ae,Ad] at ha';obtain ⟨rfl,rfl⟩:=ha';obtain ⟨vs,hvs,hfc⟩:=eO 0 (AD _);have fG:(Builtin.firstCells i.size 0 ux).run P w=.ok vs w:=hfc w.drawn;have hv0:vs= #[]:=by
          have:vs.size=0:=by rw [←hvs.1];simp
          exact BU this
         subst hv0;cases hd with
         | datn=>refine ⟨ρ,_,w,?_,⟨.int _ _,h,Ev.refl _ _ _ _ _ h.dom⟩,rfl,rfl⟩;simp [Builtin.copy_,run_underlying hu,dR,Zo hi,fG,goInt]
         | datz=>refine ⟨ρ,_,w,?_,⟨.int _ _,h,Ev.refl _ _ _ _ _ h.dom⟩,rfl,rfl⟩;simp [Builtin.copy_,run_underlying hu,dR,Zo hi,fG,goInt,storeCells]
         | dat=>refine ⟨ρ,_,w,?_,⟨.int _ _,h,Ev.refl _ _ _ _ _ h.dom⟩,rfl,rfl⟩;simp [Builtin.copy_,run_underlying hu,dR,Zo hi,fG,goInt,storeCells]
        ·rename_i b off len cap;split at ha
         ·rename_i blk hm;dsimp only at ha;cases hf:(Nat.ble floor b&&Nat.ble (off+(Nat.min m len)*i.size) blk.cells.length) with
          | false=>rw [hf] at ha;cases ha
          | true=>
           rw [hf,Ab] at ha;simp only [Ac] at hf;have hfl:=Al hf.1;have eA:=Al hf.2;simp only [Ae,Ad] at ha;obtain ⟨rfl,rfl⟩:=ha;cases hd with
           | sl _ _ _ _ l c hρ dW hlc=>
            have hmin:Nat.min m len≤m:=Nat.min_le_left _ _;have gC:Nat.min m len*i.size≤m*i.size:=AH _ hmin;obtain ⟨vs,hvs,hfc⟩:=eO (Nat.min m len) hmin;have fG:(Builtin.firstCells i.size (Nat.min m len) ux).run P w=.ok vs w:=hfc w.drawn;have eU:=Yw.cells_oneCell hvs (At.2 fun a ha=>At.1 hsc a (Cj ha));have hvl:(src.take (Nat.min m len*i.size)).length =Nat.min m len*i.size:=by rw [AZ,hsl];omega
            obtain ⟨cur,el,hw,fR,dQ⟩:=h.write hρ hm (off:=off) (cs:=src.take (Nat.min m len*i.size)) (vs:=vs.toList) (by simpa using hvs.1.symm) (by rw [hvl];exact eA) (fun j h1 h2=>by simpa using hvs.2 j h1 (by simpa using h2));have hst:=run_storeCells_at P l.blk (l.base+off) el vs.toList 0 cur w hw (by rw [A3];exact fR) eU;rw [A3] at hst;refine ⟨ρ,.int .i64 (Nat.min m len),w.setRow l.blk (cur.toList.take (l.base+off)++vs.toList++cur.toList.drop (l.base+off+vs.toList.length)).toArray,?_,⟨.int _ _,?_,Ev.ofWrite h hρ hfl _ _⟩,rfl,rfl⟩
            ·simp [Builtin.copy_,run_underlying hu,dR,Zo hi,fG,goInt,hst,-Array.length_toList,-List.append_assoc]
            ·rw [hvl] at dQ
             simpa only [St.withMem] using dQ
         ·cases ha
        ·cases ha
      ·cases ha
     ·cases ha
    ·cases ha
 ·cases ha
theorem v8e {mem:Mem} {next:Nat} {w:World} (h:Rel ρ mem next w) {n sz:Nat} {g:Nat→List AVal} {ux:Value} (hx:Yw ρ (.dat n g) ux) (hg: ∀i,i<n→(g i).length =sz) (hsz:1≤sz) {m:Nat} (hm:m≤n):
  (∀w,(Builtin.lenOf ux).run P w=.ok n w)∧ ∃vs:Array Value,Ue ρ (Yq m g) vs∧ ∀d,(Builtin.firstCells sz m ux).run P {w with drawn:=d}=.ok vs {w with drawn:=d}:=by
 cases hx with
 | datn=>
  obtain rfl:m=0:=by omega
  exact ⟨fun w=>by simp [Builtin.lenOf], #[],⟨by simp [Yq],fun i h1 h2=>by simp [Yq] at h1⟩,fun d=>by simp [Builtin.firstCells]⟩
 | datz=>
  obtain rfl:m=0:=by omega
  exact ⟨fun w=>by simp [Builtin.lenOf], #[],⟨by simp [Yq],fun i h1 h2=>by simp [Yq] at h1⟩,fun d=>by simp [Builtin.firstCells,loadCells,loadCellsFrom]⟩
 | dat _ _ blk base sz' cap val dW fS hv hh=>
  refine ⟨fun w=>by simp [Builtin.lenOf],?_⟩;have hg': ∀i,i<m→(g i).length =sz:=fun i hi=>hg i (by omega);have hl:=Ym m hg';have hdiv: ∀k,k<m*sz→k / sz<m∧k %sz<sz∧k / sz*sz+k %sz=k:=fun k hk=>
   ⟨By (by rw [Bq];exact hk),BY _ hsz,by rw [Bq];exact B1 k sz⟩
  have eL: ∀(d k:Nat),k<m*sz→({w with drawn:=d}:World).cell? ((⟨blk,base,none⟩:Addr).add k)=some (val (k / sz) (k %sz)):=by
   intro d k hk;obtain ⟨hq,hj,e4⟩:=hdiv k hk;have hs:sz'=sz:=by rw [←fS (k / sz) (by omega),hg' _ hq]
   obtain ⟨cs,el,fz,e1,e2⟩:=hh (k / sz) (k %sz) (by omega) (by omega);have e3:=h.old _ _ e1;rw [hs,e4] at e2;rw [Xb];simp only [World.cell?,e3];exact e2
  refine ⟨_,⟨?_,?_⟩,fun d=>by simp only [Builtin.firstCells];exact run_loadCells _ _ _ (fun k=>val (k / sz) (k %sz)) (eL d)⟩
  ·simp [hl]
  ·intro k h1 h2;obtain ⟨hq,hj,e4⟩:=hdiv k (by rw [←hl];exact h1);have hj':k %sz<(g (k / sz)).length :=by rw [hg' _ hq];exact hj
   have hr:=Vw m hg' (k / sz) (k %sz) hq hj;rw [e4,Ao h1,Ao hj'] at hr;rw [Af hr]
   simpa using (hv (k / sz) (k %sz) (by omega) hj').mono (x4v ρ)
theorem x5u {g:Nat→List AVal} {sz n m:Nat} (hg: ∀i,i<n→(g i).length =sz) (hm:m≤n):(Yq n g).take (m*sz)=Yq m g:=by have:=z5e (off:=0) (len:=m) hg (by omega);simp only [Bi,AX,Ag] at this;exact this.symm
theorem v4n {get g:Nat→List AVal} {sz N off n:Nat} (hl: ∀i,i<N→(get i).length =sz) (hg: ∀i,i<n→(g i).length =sz) (h:off+n≤N):
  (∀i,i<N→(Jp get off n g i).length =sz)∧Yq N (Jp get off n g)=(Yq N get).take (off*sz)++Yq n g++(Yq N get).drop (off*sz+n*sz):=by
 have h1: ∀i,i<N→(Jp get off n g i).length =sz:=fun i hi=>by
  unfold Jp;cases e:(Nat.ble off i&&Nat.ble (i+1) (off+n)) with
  | true=>simp only [Ac] at e;have e1:=Al e.1;have e2:=Al e.2;simp only [Ab];exact hg _ (by omega)
  | false=>exact hl _ hi
 refine ⟨h1,?_⟩;obtain ⟨r,rfl⟩: ∃r,N=off+(n+r):=⟨N - off - n,by omega⟩
 have e2:off*sz+n*sz=(off+n)*sz:=(AR _ _ _).symm;rw [x5u hl (by omega),e2];have e3:(Yq (off+(n+r)) get).drop ((off+n)*sz)=Yq r fun k=>get (off+n+k):=by rw [z5e (off:=off+n) (len:=r) hl (by omega)];rw [AP];have:=Ym _ hl;rw [BM,this,←Nat.sub_mul,show off+(n+r) - (off+n)=r by omega];exact Ar _
 rw [e3];unfold Yq;rw [List.range_add,List.range_add,BS,BH,BS,←AL]
 congr 1
 ·congr 1
  ·refine Kc fun i hi=> ?_;have:=A0.1 hi;unfold Jp;rw [show Nat.ble off i=false from A4.2 fun e=>by have:=Al e;omega];rfl
  ·rw [List.flatMap_map];refine Kc fun i hi=> ?_;have:=A0.1 hi;unfold Jp;rw [Bh (show off≤off+i by omega),Bh (show off+i+1≤off+n by omega),Nat.add_sub_cancel_left];rfl
 ·rw [List.map_map,List.flatMap_map];refine Kc fun i hi=> ?_;unfold Jp;show (bif Nat.ble off (off+(n+i))&&Nat.ble (off+(n+i)+1) (off+n) then _ else _)=_;rw [show Nat.ble (off+(n+i)+1) (off+n)=false from A4.2 fun e=>by have:=Al e;omega,Ck,Aa];show get (off+(n+i))=get (off+n+i);rw [AB]
theorem x4q {mem:Mem} {next:Nat} {w:World} (h:Rel ρ mem next w) {sz:Nat} (hsz:1≤sz) {x:AVal} {ux:Value} {m:Nat} {g:Nat→List AVal} {o:Bool} (hc:w3q mem sz x=some (m,g,o)) (ho:o=true) (hx:Yw ρ x ux):
  (∀k,k<m→(g k).length =sz∧(g k).all y1u=true)∧ ∀n,n≤m→(∀w,(Builtin.lenOf ux).run P w=.ok m w)∧ ∃vs:Array Value,Ue ρ (Yq n g) vs∧ ∀d,(Builtin.firstCells sz n ux).run P {w with drawn:=d}=.ok vs {w with drawn:=d}:=by
 subst ho;have part: ∀(b z off len c:Nat) (l:Loc) (blk:ABlk) (A:Arr),ρ b=some l→Yn mem b=some blk→blk.arr=some A→len≤c→(Nat.beq z sz&&(Nat.beq A.sz sz&&(decide (off+len≤A.n)&&pd (∀i,i<len→(A.get (off+i)).length =sz∧(A.get (off+i)).all y1u=true))))=true→
   (∀k,k<len→(A.get (off+k)).length =sz∧(A.get (off+k)).all y1u=true)∧ ∀n,n≤len→(∀w,(Builtin.lenOf (.slice (some ⟨l.blk,l.base+off*z,none⟩) len c)).run P w=.ok len w)∧ ∃vs:Array Value,Ue ρ (Yq n fun k=>A.get (off+k)) vs∧ ∀d,(Builtin.firstCells sz n (.slice (some ⟨l.blk,l.base+off*z,none⟩) len c)).run P {w with drawn:=d}=.ok vs {w with drawn:=d}:=by
  intro b z off len c l blk A hρ hm hA dR ho;simp only [Ac,As] at ho;obtain ⟨k1,k2,k3,k4⟩:=ho;obtain rfl:=Ak k1;have k2:=Ak k2;have k4:= @AA _ (Classical.propDecidable _) k4;refine ⟨k4,fun n hn=> ?_⟩;obtain ⟨eV,fW,eF⟩:=(h.blk b l blk hρ hm).arr A hA;rw [k2] at eF;have hlr:=Ym A.n eF;have hm2:(off+len)*z≤A.n*z:=AH _ k3;rw [AR] at hm2;have hpl:=z5e eF k3;have hL:(Yq len fun k=>A.get (off+k)).length =len*z:=Ym len fun i hi=>(k4 i hi).1;have hcs:Xv mem z (.sl b (off*z) len (.ex c))=some (len,Yq len fun k=>A.get (off+k)):=by simp only [Xv,hm];unfold cut;simp only;rw [eV,←hpl,show Nat.beq (Yq len fun k=>A.get (off+k)).length (len*z)=true from by rw [hL,B3]];rfl
  obtain ⟨q1,q2⟩:=Vq (P:=P) h hcs (.sl b (off*z) len (.ex c) l c hρ rfl dR) hL;obtain ⟨vs,v1,v2⟩:=q2 n hn;rw [x5u (fun i hi=>(k4 i hi).1) hn] at v1;exact ⟨q1,vs,v1,v2⟩
 have none0: ∀(g:Nat→List AVal) (n:Nat) (p:Option Addr) (c:Nat),n≤0→(∀w,(Builtin.lenOf (.slice p 0 c)).run P w=.ok 0 w)∧ ∃vs:Array Value,Ue ρ (Yq n g) vs∧ ∀d,(Builtin.firstCells sz n (.slice p 0 c)).run P {w with drawn:=d}=.ok vs {w with drawn:=d}:=by
  intro g n p c hn;obtain rfl:n=0:=by omega
  cases p with
  | none=>exact ⟨fun w=>by simp [Builtin.lenOf], #[],⟨by simp [Yq],fun i h1 h2=>by simp [Yq] at h1⟩,fun d=>by simp [Builtin.firstCells]⟩
  | some a=>refine ⟨fun w=>by simp [Builtin.lenOf],_,⟨?_,fun i h1 h2=>by simp [Yq] at h1⟩,fun d=>by simp only [Builtin.firstCells];exact run_loadCells _ _ _ (fun _=>undef) fun k hk=>by rw [Bi] at hk;exact absurd hk (AO _)⟩;simp [Yq]
 unfold w3q at hc;split at hc
 ·simp only [Ae,Ad] at hc;obtain ⟨rfl,rfl,_⟩:=hc;cases hx;exact ⟨fun k hk=>absurd hk (AO _),fun n hn=>none0 _ n none 0 hn⟩
 ·rename_i n' g';simp only [Ae,Ad] at hc;obtain ⟨rfl,rfl,h0⟩:=hc;have hp:= @AA _ (Classical.propDecidable _) h0;exact ⟨hp,fun n hn=>v8e (P:=P) h hx (fun i hi=>(hp i hi).1) hsz hn⟩
 ·split at hc
  ·rename_i blk hm;split at hc
   ·rename_i A hA;simp only [Ae,Ad] at hc;obtain ⟨rfl,rfl,h0⟩:=hc;cases hx with
    | sla _ _ _ _ _ l c hρ dW dR=>exact part _ _ _ _ _ l _ _ hρ hm hA dR h0
    | slan=>exact ⟨fun k hk=>absurd hk (AO _),fun n hn=>none0 _ n none 0 hn⟩
   ·cases hc
  ·cases hc
 ·split at hc
  ·rename_i blk hm;split at hc
   ·rename_i A hA;simp only [Ae,Ad] at hc;obtain ⟨rfl,rfl,h0⟩:=hc;cases hx with
    | slv _ _ _ _ l c hρ dR=>exact part _ _ _ _ _ l _ _ hρ hm hA dR h0
    | slve=>exact ⟨fun k hk=>absurd hk (AO _),fun n hn=>none0 _ n _ _ hn⟩
    | slvn=>exact ⟨fun k hk=>absurd hk (AO _),fun n hn=>none0 _ n none 0 hn⟩
   ·cases hc
  ·cases hc
 ·cases hc
theorem Rel.reblk {mem:Mem} {next:Nat} {w:World} (h:Rel ρ mem next w) {b:Nat} {blk blk':ABlk} (hm:Yn mem b=some blk) (hb: ∀l,ρ b=some l→Jz ρ w blk l→Jz ρ w blk' l):Rel ρ (Wz mem b (some blk')) next w:=by
 have iff: ∀c,(Yn (Wz mem b (some blk')) c).isSome =true→(Yn mem c).isSome =true:=fun c hc=>by
  rw [Vk] at hc;by_cases e:c=b
  ·rw [e,hm];rfl
  ·rwa [Ay e] at hc
 have hlt:b<next:=by
  rcases Bm b next with q | q
  ·exact q
  ·rw [h.bd b q] at hm;cases hm
 refine ⟨h.dom,fun c c' m m' e e' he hs hs'=>h.inj c c' m m' e e' he (iff c hs) (iff c' hs'),fun c m ac e hc=> ?_,h.old,fun c m e hs=>h.sep c m e (iff c hs),h.real,fun c hc=> ?_,h.ldom⟩
 ·rw [Vk] at hc;by_cases ec:c=b
  ·subst ec;rw [AC rfl] at hc;obtain rfl:=Af hc;exact hb m e (h.blk c m blk e hm)
  ·rw [Ay ec] at hc;exact h.blk c m ac e hc
 ·rw [Zw _ _ (by omega)];exact h.bd c hc
theorem Ev.put {mem:Mem} {next:Nat} {w:World} (h:Rel ρ mem next w) (floor:Nat) {b:Nat} {blk:ABlk} {A:Arr} (hm:Yn mem b=some blk) (hA:blk.arr=some A) (o:Option ABlk):Ev ρ ρ floor mem next (Wz mem b o) next w w where
 ext:=Rho.le_refl _
 new _ _:=rfl
 nxt:=Ar _
 unborn k _ e cs ty hk:=by
  by_cases hkb:k=b
  ·subst hkb;rw [hm] at hk;cases hk;cases hA
  ·rw [Zw _ _ hkb];exact hk
 frame _ _ hk _:=hk
 fresh k m hk e:=by have:=h.dom k m e;omega
 size:=Ar _
 os:=rfl
 tape:=rfl
 output:=rfl
 still _ _:=rfl
theorem y3i {cx:Ctx} {st st':St} {w:World} (h:Rel ρ st.mem st.next w) {ts:Array TypeId} {type:TypeId} {us:Array Value} {b sz off len:Nat} {d x:AVal} {xs:List AVal} {v:AVal} (ha:y3j P cx st ts.toList b sz off len x=some (v,st')) (hob:st'.ob=true) (hx:Vj (Yw ρ) (d::x::xs) us.toList)
  (hd: ∀u,Yw ρ d u→(∃l c,ρ b=some l∧len≤c∧u=.slice (some ⟨l.blk,l.base+off*sz,none⟩) len c)∨(len=0∧ ∃p c,u=.slice p 0 c)):
  ∃ρ' u w',(Builtin.copy_ ts type us).run P w=.ok u w'∧x5k ρ cx.floor st st' v w ρ' u w':=by
 obtain ⟨ts⟩:=ts;obtain ⟨us⟩:=us;simp only at ha hx;unfold y3j at ha;split at ha
 ·rename_i t _;cases hx with
  | @cons _ ud _ _ hd0 hx=>
   cases hx with
   | @cons _ ux _ uxs hx _=>
    split at ha
    ·rename_i e hu;split at ha
     ·rename_i i blk hi hm;split at ha
      ·rename_i A m g o hA hcs;obtain ⟨eW,ha⟩:=z0n ha;simp only [Ac] at eW;have hfl:=Al eW.1;have hsz:=Al eW.2;simp only [Aq,Ad] at ha;obtain ⟨st1,ho,rfl,rfl⟩:=ha;obtain ⟨_,m2,n2,o4⟩:=z9n ho;obtain ⟨hb,_⟩:=o4 hob;simp only [Ac,As] at hb;obtain ⟨k1,k2,k3,k4⟩:=hb;obtain rfl:=Ak k1;have k2:=Ak k2;have m2:st1.mem=Wz st.mem b (some ⟨Yq A.n (Jp A.get off (Nat.min m len) g),blk.ty,some ⟨A.sz,A.n,Jp A.get off (Nat.min m len) g⟩⟩):=m2;have n2:st1.next=st.next:=n2
       obtain ⟨hg,eO⟩:=x4q (P:=P) h hsz hcs k4 hx;have hmin:Nat.min m len≤m:=Nat.min_le_left _ _;have hmin2:Nat.min m len≤len:=Nat.min_le_right _ _;obtain ⟨dR,vs,hvs,hfc⟩:=eO (Nat.min m len) hmin;have fG:(Builtin.firstCells i.size (Nat.min m len) ux).run P w=.ok vs w:=hfc w.drawn;have hgl: ∀k,k<Nat.min m len→(g k).length =i.size:=fun k hk=>(hg k (by omega)).1;have hrl:=Ym (Nat.min m len) hgl;have eU:=Yw.cells_oneCell hvs (y4p _ fun k hk=>(hg k (by omega)).2);have hbn:b<st.next:=by
        rcases Bm b st.next with q | q
        ·exact q
        ·rw [h.bd b q] at hm;cases hm
       have nothing:Nat.min m len=0→Rel ρ st1.mem st1.next w∧Ev ρ ρ cx.floor st.mem st.next st1.mem st1.next w w:=fun e0=>by
        rw [m2,n2,e0];have same: ∀k,Jp A.get off 0 g k=A.get k:=fun k=>by
         unfold Jp;cases e:(Nat.ble off k&&Nat.ble (k+1) (off+0)) with
         | true=>simp only [Ac] at e;have e1:=Al e.1;have e2:=Al e.2;omega
         | false=>rfl
        have same:Jp A.get off 0 g=A.get:=funext same;rw [same];refine ⟨?_,Ev.put h cx.floor hm hA _⟩;refine h.reblk hm fun l hρ hbk=> ?_;obtain ⟨eV,fW,eF⟩:=hbk.arr A hA;refine ⟨by rw [hbk.n,eV],hbk.tot,fun B hB=> ?_,?_⟩
        ·obtain rfl:=Af hB;exact ⟨rfl,fW,eF⟩
        ·have:=hbk.cells;rw [eV] at this;exact this
       rcases hd ud hd0 with ⟨l,c,hρ,hlc,rfl⟩ | ⟨rfl,p,c,rfl⟩
       ·obtain ⟨eV,fW,eF⟩:=(h.blk b l blk hρ hm).arr A hA;rw [k2] at eF;have hlr:=Ym A.n eF;have hfitN:off+Nat.min m len≤A.n:=(by omega);obtain ⟨c1,c2⟩:=v4n eF hgl hfitN;have hm3:(off+Nat.min m len)*i.size≤A.n*i.size:=AH _ hfitN;rw [AR] at hm3;obtain ⟨cur,el,hw,fR,dQ⟩:=h.write hρ hm (off:=off*i.size) (cs:=Yq (Nat.min m len) g) (vs:=vs.toList) (by simpa using hvs.1.symm) (by rw [hrl,eV,hlr];exact hm3) (fun j h1 h2=>by simpa using hvs.2 j h1 (by simpa using h2));have hst:=run_storeCells_at P l.blk (l.base+off*i.size) el vs.toList 0 cur w hw (by rw [A3];exact fR) eU;rw [A3] at hst;rw [hrl,eV,←c2] at dQ;refine ⟨ρ,.int .i64 (Nat.min m len:Nat),w.setRow l.blk (cur.toList.take (l.base+off*i.size)++vs.toList++cur.toList.drop (l.base+off*i.size+vs.toList.length)).toArray,?_,.int _ _,?_,?_⟩
        ·have hl2:=dR w;simp [Builtin.copy_,run_underlying hu,dR,Zo hi,fG,goInt,hst,-Array.length_toList,-List.append_assoc]
        ·rw [m2,n2];have:=dQ.setArr ⟨A.sz,A.n,.flat (Jp A.get off (Nat.min m len) g)⟩ rfl fW (by rw [k2];exact c1);exact this
        ·rw [m2,n2];exact Ev.ofWrite h hρ hfl _ _
       ·have e0:Nat.min m 0=0:=Nat.min_zero m;obtain ⟨n1,n3⟩:=nothing e0;refine ⟨ρ,.int .i64 (Nat.min m 0:Nat),w,?_,.int _ _,n1,n3⟩;rw [e0] at fG hvs;have hv0:vs= #[]:=by
         have:vs.size=0:=by rw [←hvs.1];simp [Yq]
         exact BU this
        subst hv0;cases p with
        | none=>simp [Builtin.copy_,run_underlying hu,dR,Zo hi,fG,goInt]
        | some a=>simp [Builtin.copy_,run_underlying hu,dR,Zo hi,fG,goInt,storeCells]
      ·cases ha
     ·cases ha
    ·cases ha
 ·cases ha
theorem x7z {st st':St} {w:World} (h:Rel ρ st.mem st.next w) (floor:Nat) {ts:Array TypeId} {type:TypeId} {xs:List AVal} {us:Array Value} {v:AVal} (ha:y8u P floor st ts.toList xs=some (v,st')) (hx:Vj (Yw ρ) xs us.toList):
  ∃ρ' u w',(Builtin.clear_ ts type us).run P w=.ok u w'∧x5k ρ floor st st' v w ρ' u w'∧st'.env=st.env∧st'.ob=st.ob:=by
 obtain ⟨ts⟩:=ts;obtain ⟨us⟩:=us;simp only at ha hx;unfold y8u at ha;have unit:Yw ρ (.tup []) (.tuple #[]):=.tup [] #[] rfl fun i h1 _=>by simp at h1
 split at ha
 ·rename_i t _ d _;cases hx with
  | @cons _ ud _ _ hd _=>
   split at ha
   ·rename_i e hu;split at ha
    ·rename_i i zero hi hz;obtain ⟨i2,z,hi2,_,hzr,hzv⟩:=Wq (ρ:=ρ) hz;split at ha
     ·cases hd;simp only [Ae,Ad] at ha;obtain ⟨rfl,rfl⟩:=ha;exact ⟨ρ,.tuple #[],w,by simp [Builtin.clear_,run_underlying hu],⟨unit,h,Ev.refl _ _ _ _ _ h.dom⟩,rfl,rfl⟩
     ·rename_i b off len cap;cases hd with
      | sl _ _ _ _ l c hρ dW hlc=>
       rcases (by cases hl0:Nat.beq len 0 with
         | true=>rw [hl0] at ha;exact .inl ⟨rfl,ha⟩
         | false=>rw [hl0] at ha;exact .inr ⟨rfl,ha⟩:(Nat.beq len 0=true∧_)∨(Nat.beq len 0=false∧_)) with ⟨hl0,ha⟩ | ⟨hl0,ha⟩
       ·have hl0:=Ak hl0;subst hl0;simp only [Ab,Ae,Ad] at ha;obtain ⟨rfl,rfl⟩:=ha;exact ⟨ρ,.tuple #[],w,by simp [Builtin.clear_,run_underlying hu],⟨unit,h,Ev.refl _ _ _ _ _ h.dom⟩,rfl,rfl⟩
       ·obtain ⟨hc,ha⟩:=z0n ha;simp only [Ac] at hc;obtain ⟨⟨hzl,hzs⟩,hfl⟩:=hc;have hzl:=Ak hzl;have hfl:=Al hfl;split at ha
        ·rename_i blk hm;obtain ⟨eA,ha⟩:=z0n ha;have eA:=Al eA;simp only [Ae,Ad] at ha;obtain ⟨rfl,rfl⟩:=ha;have hrl:(rep len zero).length =len*i.size:=(by rw [z0r,hzl]);have fD:Ue ρ (rep len zero) (Builtin.zeroCells z.cells len):=y1m hzr len (len*z.cells.size) (by rw [hzr.1]);have eU: ∀v∈(Builtin.zeroCells z.cells len).toList,v.oneCell'=true:=Yw.cells_oneCell fD (by
          refine At.2 fun a ha=>At.1 hzs a ?_;unfold rep at ha;obtain ⟨l,hl,hal⟩:=List.mem_flatten.1 ha;rw [(List.mem_replicate.1 hl).2] at hal;exact hal)
         obtain ⟨cur,el,hw,fR,dQ⟩:=h.write hρ hm (off:=off) (cs:=rep len zero) (vs:=(Builtin.zeroCells z.cells len).toList) (by simpa using fD.1.symm) (by rw [hrl];exact eA) (fun j h1 h2=>by simpa using fD.2 j h1 (by simpa using h2));have hst:=run_storeCells_at P l.blk (l.base+off) el (Builtin.zeroCells z.cells len).toList 0 cur w hw (by rw [A3];exact fR) eU;rw [A3] at hst;have hne:len≠0:=fun e=>by rw [e] at hl0;cases hl0
         refine ⟨ρ,.tuple #[],w.setRow l.blk (cur.toList.take (l.base+off)++(Builtin.zeroCells z.cells len).toList ++cur.toList.drop (l.base+off+(Builtin.zeroCells z.cells len).toList.length)).toArray,?_,⟨unit,?_,Ev.ofWrite h hρ hfl _ _⟩,rfl,rfl⟩
         ·obtain ⟨len',rfl⟩: ∃k,len=k+1:=⟨len - 1,by omega⟩
          simp [Builtin.clear_,run_underlying hu,hzv,hst,-Array.length_toList,-List.append_assoc]
         ·rw [hrl] at dQ
          simpa only [St.withMem] using dQ
        ·cases ha
     ·cases ha
    ·cases ha
   ·cases ha
 ·cases ha
end
section
variable {P:Program} {ρ:Rho}
structure Xe (floor:Nat) (st st':St):Prop where
 nxt:st.next≤st'.next
 bd:(∀b,st.next≤b→Yn st.mem b=none)→ ∀b,st'.next≤b→Yn st'.mem b=none
 low:floor≤st.next→ ∀b,b<floor→Yn st'.mem b=Yn st.mem b
 ob:st'.ob=true→st.ob=true
theorem Xe.refl (floor:Nat) (st:St):Xe floor st st:=⟨Ar _,fun h=>h,fun _ _ _=>rfl,fun h=>h⟩
theorem Xe.trans {floor:Nat} {a b c:St} (h:Xe floor a b) (k:Xe floor b c):Xe floor a c:=
 ⟨AK h.nxt k.nxt,fun x=>k.bd (h.bd x),fun x d hd=>(k.low (AK x h.nxt) d hd).trans (h.low x d hd),fun x=>h.ob (k.ob x)⟩
theorem Xe.write {floor:Nat} (st:St) {b:Nat} {ab:ABlk} (o:Option ABlk) (hf:floor≤b) (hm:Yn st.mem b=some ab):Xe floor st (st.withMem (Wz st.mem b o)) where
 nxt:=Ar _
 bd h k hk:=by
  have hne:k≠b:=fun e=>by rw [e,] at hk;rw [h b hk] at hm;cases hm
  show Yn (Wz st.mem b o) k=none;rw [Zw _ _ hne];exact h k hk
 low _ k hk:=Zw _ _ (by omega)
 ob h:=h
theorem Xe.new {floor:Nat} (st:St) (cs:List AVal) (ty:TypeId):Xe floor st (y2k st cs ty) where
 nxt:=Cs _
 bd h k hk:=by
  have hk':st.next+1≤k:=hk
  show Yn (Wz st.mem st.next _) k=none;rw [Zw _ _ (by omega)];exact h k (by omega)
 low hf k hk:=Zw _ _ (by omega)
 ob h:=h
def w7j (R:Runner):Prop:= ∀cx todo st st',R cx todo st=some st'→Xe cx.floor st st'
theorem Xi {cx:Ctx} {st st':St} {b:Bool} (h:st.owe cx b=some st'):st'.env=st.env∧st'.mem=st.mem∧st'.next=st.next∧(st'.ob=true→b=true∧st.ob=true):=by
 obtain ⟨env,mem,next,orc,ob⟩:=st;unfold St.owe at h;dsimp only at h;cases hs:cx.sym with
 | true=>rw [hs,Ab] at h;obtain rfl:=Af h;exact ⟨rfl,rfl,rfl,fun h=>by simp only [Ac] at h;exact ⟨h.1,h.2⟩⟩
 | false=>
  rw [hs,Aa] at h;cases b with
  | false=>cases h
  | true=>obtain rfl:=Af h;exact ⟨rfl,rfl,rfl,fun h=>⟨rfl,h⟩⟩
theorem y6c {st st':St} {b e:Bool} (h:st.test b=(e,st')):st'.env=st.env∧st'.mem=st.mem∧st'.next=st.next∧(st'.ob=true→e=b∧st.ob=true):=by
 obtain ⟨env,mem,next,orc,ob⟩:=st;cases orc with
 | nil=>simp only [St.test,Ad] at h;obtain ⟨rfl,rfl⟩:=h;exact ⟨rfl,rfl,rfl,fun h=>⟨rfl,h⟩⟩
 | cons c r=>simp only [St.test,Ad] at h;obtain ⟨rfl,rfl⟩:=h;refine ⟨rfl,rfl,rfl,fun h=> ?_⟩;simp only [Ac,beq_iff_eq] at h;exact ⟨h.1.symm,h.2⟩
theorem Wn {cx:Ctx} {st st':St} {dst:Option Tmp} {v:AVal} (h:st.put cx dst v=some st'):st'.mem=st.mem∧st'.next=st.next∧st'.ob=st.ob∧
  ((dst=none∧st'.env=st.env)∨ ∃d,dst=some d∧d<cx.n∧st'.env=T.set .undef st.env d v):=by
 obtain ⟨env,mem,next,orc,ob⟩:=st;cases dst with
 | none=>simp only [St.put,Ae] at h;subst h;exact ⟨rfl,rfl,rfl,.inl ⟨rfl,rfl⟩⟩
 | some d=>
  simp only [St.put] at h;cases hb:Nat.ble (d+1) cx.n with
  | false=>rw [hb] at h;cases h
  | true=>rw [hb,Ab] at h;obtain rfl:=Af h;exact ⟨rfl,rfl,rfl,.inr ⟨d,rfl,Al hb,rfl⟩⟩
theorem Xe.same {floor:Nat} {st st':St} (hm:st'.mem=st.mem) (hn:st'.next=st.next) (ho:st'.ob=true→st.ob=true):Xe floor st st':=
 ⟨by rw [hn];exact Ar _,fun h b hb=>by rw [hm];exact h b (by rw [←hn];exact hb),fun _ b _=>by rw [hm],ho⟩
theorem Zs {α:Type} {c:Bool} {x:Option α} {y:α} (h:(bif c then x else none)=some y):c=true∧x=some y:=by
 cases c with
 | false=>cases h
 | true=>exact ⟨rfl,h⟩
theorem Jg {α:Type} {c:Bool} {x z:Option α} {y:α} (h:(bif c then x else z)=some y):(c=true∧x=some y)∨(c=false∧z=some y):=by
 cases c with
 | false=>exact .inr ⟨rfl,h⟩
 | true=>exact .inl ⟨rfl,h⟩
theorem v1s {floor:Nat} {st st':St} {t:TypeId} {x v:AVal} (h:y8n P floor st t x v=some st'):Xe floor st st'∧st'.env=st.env:=by
 unfold y8n at h;split at h
 ·obtain ⟨hc,h⟩:=Zs h;simp only [Ac] at hc;split at h
  ·rename_i blk hm;obtain ⟨_,h⟩:=Zs h;obtain rfl:=Af h;exact ⟨Xe.write st _ (Al hc.1.1.1) hm,rfl⟩
  ·cases h
 ·cases h
theorem w4f {cx:Ctx} {st st':St} {t:TypeId} {x v:AVal} (h:z8f P cx st t x v=some st'):Xe cx.floor st st'∧st'.env=st.env:=by
 unfold z8f at h;split at h
 ·obtain ⟨hc,h⟩:=Zs h;simp only [Ac] at hc;split at h
  ·rename_i blk hm;split at h
   ·split at h
    ·rename_i rw1 st1 fH;obtain ⟨s1,s2,s3,s4⟩:=z7l fH;obtain ⟨o1,o2,o3,o4⟩:=Xi h;have a1:Xe cx.floor st st1:=Xe.same s2 s3 fun x=>(s4 x).2;exact ⟨(a1.trans (Xe.write st1 _ (Al hc.1.1.1.1) (by rw [s2];exact hm))).trans (Xe.same o2 o3 fun x=>(o4 x).2),o1.trans s1⟩
    ·cases h
   ·cases h
  ·cases h
 ·cases h
theorem y8w {st st':St} {t:TypeId} {len:Nat} {ps:List (Nat×AVal)} {v:AVal} {un:Bool} (floor:Nat) (h:Kk P un st t len ps=some (v,st')):Xe floor st st'∧st'.env=st.env:=by
 unfold Kk at h;split at h
 ·split at h
  ·obtain ⟨_,h⟩:=Zs h;split at h
   ·simp only [Ae,Ad] at h;obtain ⟨_,rfl⟩:=h;exact ⟨Xe.new st _ _,rfl⟩
   ·cases h
  ·cases h
 ·cases h
theorem z7f {st st':St} {t:TypeId} {x y v:AVal} (floor:Nat) (h:Um P st t x y=some (v,st')):Xe floor st st'∧st'.env=st.env:=by
 unfold Um at h;split at h
 ·split at h
  ·obtain ⟨_,h⟩:=Zs h;simp only [Ae,Ad] at h;obtain ⟨_,rfl⟩:=h;exact ⟨Xe.new st _ _,rfl⟩
  ·cases h
 ·cases h
theorem w4n {floor:Nat} {st st':St} {ts:List TypeId} {xs:List AVal} {v:AVal} (h:z1i P floor st ts xs=some (v,st')):Xe floor st st'∧st'.env=st.env:=by
 unfold z1i at h;split at h
 ·split at h
  ·split at h
   ·split at h
    ·obtain ⟨_,h⟩:=Zs h;split at h
     ·rcases Jg h with ⟨_,h⟩ | ⟨_,h⟩
      ·simp only [Ae,Ad] at h;obtain ⟨_,rfl⟩:=h;exact ⟨Xe.refl _ _,rfl⟩
      ·obtain ⟨_,h⟩:=Zs h;simp only [Ae,Ad] at h;obtain ⟨_,rfl⟩:=h;exact ⟨Xe.new st _ _,rfl⟩
     ·split at h
      ·rename_i blk hm;split at h
       ·obtain ⟨_,h⟩:=Zs h;split at h
        ·rcases Jg h with ⟨_,h⟩ | ⟨_,h⟩
         ·obtain ⟨hc,h⟩:=Zs h;simp only [Ac] at hc;simp only [Ae,Ad] at h;obtain ⟨_,rfl⟩:=h;exact ⟨Xe.write st _ (Al hc.1) hm,rfl⟩
         ·simp only [Ae,Ad] at h;obtain ⟨_,rfl⟩:=h;exact ⟨Xe.new st _ _,rfl⟩
        ·obtain ⟨hc,h⟩:=Zs h;simp only [Ac] at hc;have hf:=Al hc.2;rcases Jg h with ⟨_,h⟩ | ⟨_,h⟩
         ·simp only [Ae,Ad] at h;obtain ⟨_,rfl⟩:=h;exact ⟨Xe.write st _ hf hm,rfl⟩
         ·obtain ⟨_,h⟩:=Zs h;simp only [Ae,Ad] at h;obtain ⟨_,rfl⟩:=h;exact ⟨(Xe.write st none hf hm).trans (Xe.new _ _ _),rfl⟩
       ·cases h
      ·cases h
     ·cases h
    ·cases h
   ·cases h
  ·cases h
 ·cases h
theorem Xe.put {floor:Nat} (st:St) (cs:Option ABlk) {st':St} (hm:st'.mem=Wz st.mem st.next cs) (hn:st'.next=st.next+1) (ho:st'.ob=true→st.ob=true):Xe floor st st' where
 nxt:=by rw [hn];exact Cs _
 bd h k hk:=by rw [hn] at hk;rw [hm,Zw _ _ (by omega)];exact h k (by omega)
 low hf k hk:=by rw [hm];exact Zw _ _ (by omega)
 ob:=ho
theorem y8p {cx:Ctx} {st st':St} {t:TypeId} {x y v:AVal} (h:Kj P cx st t x y=some (v,st')):Xe cx.floor st st'∧st'.env=st.env:=by
 unfold Kj at h;split at h
 ·split at h
  ·obtain ⟨_,h⟩:=Zs h;simp only [Aq,Ad] at h;obtain ⟨_,h1,_,rfl⟩:=h;obtain ⟨o1,o2,o3,o4⟩:=Xi h1;exact ⟨Xe.put st _ o2 (o3.trans rfl) fun x=>(o4 x).2,o1⟩
  ·cases h
 ·cases h
theorem x8d {cx:Ctx} {st st':St} {ts:List TypeId} {xs:List AVal} {v:AVal} (h:z4h P cx st ts xs=some (v,st')):Xe cx.floor st st'∧st'.env=st.env:=by
 unfold z4h at h;split at h
 ·split at h
  ·split at h
   ·cases h
   ·split at h
    ·split at h
     ·rename_i hm;split at h
      ·obtain ⟨hc,h⟩:=Zs h;simp only [Ac] at hc;simp only [Aq,Ad] at h;obtain ⟨_,h1,_,rfl⟩:=h;obtain ⟨o1,o2,o3,o4⟩:=Xi h1;exact ⟨(Xe.write st none (Al hc.1.2) hm).trans (Xe.put (st.withMem _) _ o2 (o3.trans rfl) fun x=>(o4 x).2),o1⟩
      ·cases h
     ·cases h
    ·cases h
  ·cases h
 ·cases h
theorem u4a {floor:Nat} {st:St} {sz len:Nat} {x:AVal} {b:Option Nat} {get:Nat→List AVal} {o:Bool} (ht:z5u st.mem sz x=some (b,len,get,o)) (hf:v7f floor b=true):Xe floor st (st.withMem (w2j st.mem b)):=by
 cases b with
 | none=>exact Xe.refl _ _
 | some b=>
  have hm: ∃ab,Yn st.mem b=some ab:=by
   unfold z5u at ht;split at ht
   ·simp at ht
   ·split at ht
    ·rename_i blk hm;split at ht
     ·obtain ⟨_,ht⟩:=Zs ht;simp only [Ae,Ad] at ht;obtain ⟨rfl,_⟩:=ht;exact ⟨_,hm⟩
     ·cases ht
    ·cases ht
   ·split at ht
    ·rename_i blk hm;split at ht
     ·obtain ⟨_,ht⟩:=Zs ht;simp only [Ae,Ad] at ht;obtain ⟨rfl,_⟩:=ht;exact ⟨_,hm⟩
     ·cases ht
    ·cases ht
   ·cases ht
  obtain ⟨ab,hm⟩:=hm;exact Xe.write st none (Al hf) hm
theorem x8c {cx:Ctx} {st st':St} {ts:List TypeId} {xs:List AVal} {v:AVal} (h:z0p P cx st ts xs=some (v,st')):Xe cx.floor st st'∧st'.env=st.env:=by
 unfold z0p at h;split at h
 ·split at h
  ·split at h
   ·split at h
    ·rename_i ht _;obtain ⟨hc,h⟩:=Zs h;simp only [Ac] at hc;simp only [Aq,Ad] at h;obtain ⟨_,h1,_,rfl⟩:=h;obtain ⟨o1,o2,o3,o4⟩:=Xi h1;exact ⟨(u4a ht hc.2).trans (Xe.put (st.withMem _) _ o2 (o3.trans rfl) fun x=>(o4 x).2),o1⟩
    ·cases h
   ·cases h
  ·cases h
 ·cases h
theorem x8e {cx:Ctx} {st st':St} {ts:List TypeId} {xs:List AVal} {v:AVal} (h:z2i P cx st ts xs=some (v,st')):Xe cx.floor st st'∧st'.env=st.env:=by
 unfold z2i at h;rcases Jg h with ⟨_,h⟩ | ⟨_,h⟩
 ·exact x8c h
 ·split at h
  ·exact x8d h
  ·exact w4n h
theorem v9l {floor:Nat} {st st':St} {ts:List TypeId} {xs:List AVal} {v:AVal} (h:w4k P floor st ts xs=some (v,st')):Xe floor st st'∧st'.env=st.env:=by
 unfold w4k at h;split at h
 ·split at h
  ·split at h
   ·split at h
    ·obtain ⟨_,h⟩:=Zs h;split at h
     ·simp only [Ae,Ad] at h;obtain ⟨_,rfl⟩:=h;exact ⟨Xe.refl _ _,rfl⟩
     ·obtain ⟨_,h⟩:=Zs h;simp only [Ae,Ad] at h;obtain ⟨_,rfl⟩:=h;exact ⟨Xe.refl _ _,rfl⟩
     ·dsimp only at h;split at h
      ·rename_i blk hm;obtain ⟨hc,h⟩:=Zs h;simp only [Ac] at hc;simp only [Ae,Ad] at h;obtain ⟨_,rfl⟩:=h;exact ⟨Xe.write st _ (Al hc.1) hm,rfl⟩
      ·cases h
     ·cases h
    ·cases h
   ·cases h
  ·cases h
 ·cases h
theorem v1w {floor:Nat} {st st':St} {ts:List TypeId} {xs:List AVal} {v:AVal} (h:y8u P floor st ts xs=some (v,st')):Xe floor st st'∧st'.env=st.env:=by
 unfold y8u at h;split at h
 ·split at h
  ·split at h
   ·split at h
    ·simp only [Ae,Ad] at h;obtain ⟨_,rfl⟩:=h;exact ⟨Xe.refl _ _,rfl⟩
    ·rcases Jg h with ⟨_,h⟩ | ⟨_,h⟩
     ·simp only [Ae,Ad] at h;obtain ⟨_,rfl⟩:=h;exact ⟨Xe.refl _ _,rfl⟩
     ·obtain ⟨hc,h⟩:=Zs h;simp only [Ac] at hc;split at h
      ·rename_i blk hm;obtain ⟨_,h⟩:=Zs h;simp only [Ae,Ad] at h;obtain ⟨_,rfl⟩:=h;exact ⟨Xe.write st _ (Al hc.2) hm,rfl⟩
      ·cases h
    ·cases h
   ·cases h
  ·cases h
 ·cases h
theorem y0r {S:Specs} {R:Runner} (hR:w7j R) {lift:Bool} {f:FuncId} {args:List AVal} {cx:Ctx} {st st':St} {v:AVal} (h:v1x P S R lift f args cx st=some (v,st')):
  (Xe cx.floor st st'∧(lift=true→ ∀b,b<st.next→grOf S f args≠some b→Yn st'.mem b=Yn st.mem b))∧st'.env=st.env:=by
 unfold v1x at h;split at h
 ·rcases Jg h with ⟨_,h⟩ | ⟨_,h⟩
  ·split at h
   ·obtain ⟨_,h⟩:=Zs h;simp only [Aq,Ad] at h;obtain ⟨st1,h1,_,rfl⟩:=h;obtain ⟨e1,e2,e3,e4⟩:=Xi h1;exact ⟨⟨Xe.same e2 e3 fun x=>(e4 x).2,fun _ b _ _=>by rw [e2]⟩,e1⟩
   ·cases h
  ·split at h;split at h
   ·obtain ⟨_,h⟩:=Zs h;simp only [Aq,Ad] at h;obtain ⟨st1,h1,_,rfl⟩:=h;obtain ⟨e1,e2,e3,e4⟩:=Xi h1;exact ⟨⟨Xe.same e2 e3 fun x=>(e4 x).2,fun _ b _ _=>by rw [e2]⟩,e1⟩
   ·cases h
 ·split at h
  ·rename_i v0 b blk o _;split at h
   ·rename_i ab hm;obtain ⟨hc,h⟩:=Zs h;simp only [Ac,BE] at hc;simp only [Aq,Ad] at h;obtain ⟨st1,h1,_,rfl⟩:=h;obtain ⟨e1,e2,e3,e4⟩:=Xi h1;exact ⟨⟨(Xe.write st (some blk) (Al hc.2) hm).trans (Xe.same e2 e3 fun x=>(e4 x).2),fun hl=>by rw [hl] at hc;cases hc.1⟩,e1⟩
   ·cases h
  ·cases h
 ·rename_i ty0 F hF;split at h
  ·rename_i b sz n sz' r;split at h
   ·rename_i cells ty A hm;obtain ⟨hc,h⟩:=Zs h;simp only [Ac] at hc;split at h
    ·rename_i n' g o _;simp only [Aq,Ad] at h;obtain ⟨st1,h1,_,rfl⟩:=h;obtain ⟨env,mem,next,orc,ob⟩:=st;simp only at h1 hm ⊢;obtain ⟨e1,e2,e3,e4⟩:=Xi h1;simp only at e1 e2 e3 e4;have hle:=Al hc.2.2.1;refine ⟨⟨⟨?_,fun hb k hk=> ?_,fun hf k hk=> ?_,fun x=>(e4 x).2⟩,fun _ k hk hn=> ?_⟩,e1⟩
     ·show next≤_
      rw [e3];omega
     ·have hb: ∀k,next≤k→Yn mem k=none:=hb
      rw [e3] at hk;have hbk:b≠k:=fun e=>by rw [e,hb k (by omega)] at hm;cases hm
      rw [e2,Zw _ _ (by omega),Zw _ _ (Ne.symm hbk)];exact hb k (by omega)
     ·have hf:cx.floor≤next:=hf
      rw [e2,Zw _ _ (by omega),Zw _ _ (by omega)]
     ·have hk:k<next:=hk
      have hbk:k≠b:=fun e=>hn (by
       unfold grOf;rw [hF,e])
      rw [e2,Zw _ _ (by omega),Zw _ _ hbk]
    ·cases h
   ·cases h
  ·cases h
 ·split at h
  ·split at h
   ·split at h
    ·rename_i st2 hr;split at h
     ·simp only [Ae,Ad] at h;obtain ⟨_,rfl⟩:=h;have q:=hR _ _ _ _ hr;refine ⟨?_,rfl⟩;cases lift with
      | false=>exact ⟨⟨q.nxt,q.bd,q.low,q.ob⟩,fun x=>by cases x⟩
      | true=>refine ⟨⟨q.nxt,q.bd,fun hf b hb=>q.low (Ar _) b (Ba hb hf),q.ob⟩,fun _ b hb _=>q.low (Ar _) b hb⟩
     ·cases h
    ·cases h
   ·cases h
  ·cases h
theorem x2l {cx:Ctx} {st st':St} {ts:List TypeId} {b sz off len:Nat} {x v:AVal} (h:y3j P cx st ts b sz off len x=some (v,st')):Xe cx.floor st st'∧st'.env=st.env:=by
 unfold y3j at h;split at h
 ·split at h
  ·split at h
   ·rename_i hm;split at h
    ·obtain ⟨hc,h⟩:=Zs h;simp only [Ac] at hc;simp only [Aq,Ad] at h;obtain ⟨_,h1,_,rfl⟩:=h;obtain ⟨o1,o2,o3,o4⟩:=Xi h1;exact ⟨(Xe.write st _ (Al hc.1) hm).trans (Xe.same o2 o3 fun x=>(o4 x).2),o1⟩
    ·cases h
   ·cases h
  ·cases h
 ·cases h
theorem v1u {cx:Ctx} {st st':St} {ts:List TypeId} {xs:List AVal} {v:AVal} (h:x2m P cx st ts xs=some (v,st')):Xe cx.floor st st'∧st'.env=st.env:=by
 unfold x2m at h;split at h
 ·exact x2l h
 ·exact x2l h
 ·exact v9l h
theorem y8s {S:Specs} {R:Runner} (hR:w7j R) {lift:Bool} {op:Op} {cx:Ctx} {st st':St} {v:AVal} (h:We P S R lift op cx st=some (v,st')):Xe cx.floor st st'∧st'.env=st.env:=by
 unfold We at h;split at h
 ·split at h
  ·rename_i hl;obtain ⟨l1,l2,l3,l4⟩:=z4g hl;simp only [Aq,Ad] at h;obtain ⟨_,h1,_,rfl⟩:=h;obtain ⟨e1,e2,e3,e4⟩:=Xi h1;exact ⟨Xe.same (e2.trans l2) (e3.trans l3) fun x=>(l4 (e4 x).2).2,e1.trans l1⟩
  ·cases h
 ·simp only [Aq,Ad] at h;obtain ⟨_,_,_,rfl⟩:=h;exact ⟨Xe.new st _ _,rfl⟩
 ·obtain ⟨_,h⟩:=Zs h;simp only [Ae,Ad] at h;obtain ⟨_,rfl⟩:=h;exact ⟨Xe.new st _ _,rfl⟩
 ·exact y8w _ h
 ·split at h
  ·simp only [Aq,Ad] at h;obtain ⟨_,h,_,rfl⟩:=h;exact w4f h
  ·simp only [Aq,Ad] at h;obtain ⟨_,h,_,rfl⟩:=h;exact v1s h
 ·rcases Jg h with ⟨_,h⟩ | ⟨_,h⟩
  ·rcases Jg h with ⟨_,h⟩ | ⟨_,h⟩
   ·have q:=z7f (st:=st.dropO) cx.floor h;exact ⟨⟨q.1.nxt,q.1.bd,q.1.low,q.1.ob⟩,q.2⟩
   ·have q:=y8p (st:=st.dropO) h;exact ⟨⟨q.1.nxt,q.1.bd,q.1.low,q.1.ob⟩,q.2⟩
  ·exact z7f _ h
 ·exact x8e h
 ·exact v1u h
 ·exact v1w h
 ·split at h
  ·obtain ⟨⟨h1,_⟩,h2⟩:=y0r hR h;exact ⟨h1,h2⟩
  ·obtain ⟨⟨h1,_⟩,h2⟩:=y0r hR h;exact ⟨h1,h2⟩
  ·cases h
 ·cases h
def x2o (x:Nat) (st st':St):Prop:=Yn st'.mem x=Yn st.mem x
theorem Kg {x b:Nat} (st:St) (o:Option ABlk) (hn:b≠x):x2o x st (st.withMem (Wz st.mem b o)):=Zw _ _ fun e=>hn e.symm
theorem z5x {x:Nat} (st:St) (cs:List AVal) (ty:TypeId) (hx:x<st.next):x2o x st (y2k st cs ty):=Zw _ _ (A7 hx)
theorem w4e {x:Nat} {floor:Nat} {st st':St} {t:TypeId} {a v:AVal} (h:y8n P floor st t a v=some st') (hn: ∀off,a≠ .ptr x off):x2o x st st':=by
 unfold y8n at h;split at h
 ·rename_i b off _ _;obtain ⟨_,h⟩:=Zs h;split at h
  ·obtain ⟨_,h⟩:=Zs h;obtain rfl:=Af h;exact Kg st _ fun e=>hn off (by rw [e])
  ·cases h
 ·cases h
theorem x7u {x:Nat} {cx:Ctx} {st st':St} {t:TypeId} {a v:AVal} (h:z8f P cx st t a v=some st') (hn: ∀sz r fo,a≠ .epa x sz r fo):x2o x st st':=by
 unfold z8f at h;split at h
 ·rename_i b sz r fo _ _;obtain ⟨_,h⟩:=Zs h;split at h
  ·split at h
   ·split at h
    ·rename_i rw1 st1 fH;obtain ⟨_,s2,_,_⟩:=z7l fH;obtain ⟨_,o2,_,_⟩:=Xi h;unfold x2o;rw [o2,←s2];exact Kg st1 _ fun e=>hn sz r fo (by rw [e])
    ·cases h
   ·cases h
  ·cases h
 ·cases h
theorem y3p {x:Nat} {st st':St} {t:TypeId} {len:Nat} {ps:List (Nat×AVal)} {v:AVal} {un:Bool} (hx:x<st.next) (h:Kk P un st t len ps=some (v,st')):x2o x st st':=by
 unfold Kk at h;split at h
 ·split at h
  ·obtain ⟨_,h⟩:=Zs h;split at h
   ·simp only [Ae,Ad] at h;obtain ⟨_,rfl⟩:=h;exact z5x st _ _ hx
   ·cases h
  ·cases h
 ·cases h
theorem z5t {x:Nat} {st st':St} {t:TypeId} {l c v:AVal} (hx:x<st.next) (h:Um P st t l c=some (v,st')):x2o x st st':=by
 unfold Um at h;split at h
 ·split at h
  ·obtain ⟨_,h⟩:=Zs h;simp only [Ae,Ad] at h;obtain ⟨_,rfl⟩:=h;exact z5x st _ _ hx
  ·cases h
 ·cases h
theorem x8b {x floor:Nat} {st st':St} {ts:List TypeId} {xs:List AVal} {v:AVal} (hx:x<st.next) (h:z1i P floor st ts xs=some (v,st')) (hn: ∀off len cap r,xs≠ .sl x off len cap::r):x2o x st st':=by
 unfold z1i at h;split at h
 ·split at h
  ·split at h
   ·split at h
    ·obtain ⟨_,h⟩:=Zs h;split at h
     ·rcases Jg h with ⟨_,h⟩ | ⟨_,h⟩
      ·simp only [Ae,Ad] at h;obtain ⟨_,rfl⟩:=h;rfl
      ·obtain ⟨_,h⟩:=Zs h;simp only [Ae,Ad] at h;obtain ⟨_,rfl⟩:=h;exact z5x st _ _ hx
     ·have hb:=fun e=>hn _ _ _ _ (AW (fun b=>AVal.sl b _ _ _::_) e);split at h
      ·rename_i blk hm;split at h
       ·obtain ⟨_,h⟩:=Zs h;split at h
        ·rcases Jg h with ⟨_,h⟩ | ⟨_,h⟩
         ·obtain ⟨hc,h⟩:=Zs h;simp only [Ae,Ad] at h;obtain ⟨_,rfl⟩:=h;exact Kg st _ hb
         ·simp only [Ae,Ad] at h;obtain ⟨_,rfl⟩:=h;exact z5x st _ _ hx
        ·obtain ⟨hc,h⟩:=Zs h;rcases Jg h with ⟨_,h⟩ | ⟨_,h⟩
         ·simp only [Ae,Ad] at h;obtain ⟨_,rfl⟩:=h;exact Kg st _ hb
         ·obtain ⟨_,h⟩:=Zs h;simp only [Ae,Ad] at h;obtain ⟨_,rfl⟩:=h;exact (z5x (st.withMem (Wz st.mem _ none)) _ _ hx).trans (Kg st none hb)
       ·cases h
      ·cases h
     ·cases h
    ·cases h
   ·cases h
  ·cases h
 ·cases h
theorem y3m {x:Nat} {cx:Ctx} {st st':St} {t:TypeId} {l c v:AVal} (hx:x<st.next) (h:Kj P cx st t l c=some (v,st')):x2o x st st':=by
 unfold Kj at h;split at h
 ·split at h
  ·obtain ⟨_,h⟩:=Zs h;simp only [Aq,Ad] at h;obtain ⟨_,h1,_,rfl⟩:=h;obtain ⟨_,o2,_,_⟩:=Xi h1;unfold x2o;rw [o2];exact Zw _ _ (A7 hx)
  ·cases h
 ·cases h
theorem x5d {x:Nat} {cx:Ctx} {st st':St} {ts:List TypeId} {xs:List AVal} {v:AVal} (hx:x<st.next) (h:z4h P cx st ts xs=some (v,st')) (hn: ∀sz off len cap r,xs≠ .sla x sz off len cap::r):x2o x st st':=by
 unfold z4h at h;split at h
 ·have hb:=fun e=>hn _ _ _ _ _ (AW (fun b=>AVal.sla b _ _ _ _::_) e);split at h
  ·split at h
   ·cases h
   ·split at h
    ·split at h
     ·split at h
      ·obtain ⟨hc,h⟩:=Zs h;simp only [Aq,Ad] at h;obtain ⟨_,h1,_,rfl⟩:=h;obtain ⟨_,o2,_,_⟩:=Xi h1;unfold x2o;rw [o2];show Yn (Wz (Wz st.mem _ none) st.next _) x=_;rw [Zw _ _ (A7 hx)];exact Zw _ _ fun e=>hb e.symm
      ·cases h
     ·cases h
    ·cases h
  ·cases h
 ·cases h
theorem y9f {m:Mem} {sz len b:Nat} {x:AVal} {get:Nat→List AVal} {o:Bool} (ht:z5u m sz x=some (some b,len,get,o)):(∃off len cap,x=.sl b off len cap)∨ ∃sz off len cap,x=.sla b sz off len cap:=by
 unfold z5u at ht;split at ht
 ·simp at ht
 ·split at ht
  ·split at ht
   ·obtain ⟨_,ht⟩:=Zs ht;simp only [Ae,Ad] at ht;obtain ⟨rfl,_⟩:=ht;exact .inl ⟨_,_,_,rfl⟩
   ·cases ht
  ·cases ht
 ·split at ht
  ·split at ht
   ·obtain ⟨_,ht⟩:=Zs ht;simp only [Ae,Ad] at ht;obtain ⟨rfl,_⟩:=ht;exact .inr ⟨_,_,_,_,rfl⟩
   ·cases ht
  ·cases ht
 ·cases ht
theorem x5c {x:Nat} {cx:Ctx} {st st':St} {ts:List TypeId} {xs:List AVal} {v:AVal} (hx:x<st.next) (h:z0p P cx st ts xs=some (v,st')) (hn: ∀off len cap r,xs≠ .sl x off len cap::r) (hn2: ∀sz off len cap r,xs≠ .sla x sz off len cap::r):x2o x st st':=by
 unfold z0p at h;split at h
 ·split at h
  ·split at h
   ·split at h
    ·rename_i b len get o1 n g o2 ht _;obtain ⟨hc,h⟩:=Zs h;simp only [Aq,Ad] at h;obtain ⟨_,h1,_,rfl⟩:=h;obtain ⟨_,o2,_,_⟩:=Xi h1;unfold x2o;rw [o2];show Yn (Wz (w2j st.mem b) st.next _) x=_;rw [Zw _ _ (A7 hx)];cases b with
     | none=>rfl
     | some b=>
      refine Zw _ _ fun e=> ?_;subst e;rcases y9f ht with ⟨_,_,_,rfl⟩ | ⟨_,_,_,_,rfl⟩
      ·exact hn _ _ _ _ rfl
      ·exact hn2 _ _ _ _ _ rfl
    ·cases h
   ·cases h
  ·cases h
 ·cases h
theorem x5e {x:Nat} {cx:Ctx} {st st':St} {ts:List TypeId} {xs:List AVal} {v:AVal} (hx:x<st.next) (h:z2i P cx st ts xs=some (v,st')) (hn: ∀off len cap r,xs≠ .sl x off len cap::r) (hn2: ∀sz off len cap r,xs≠ .sla x sz off len cap::r):x2o x st st':=by
 unfold z2i at h;rcases Jg h with ⟨_,h⟩ | ⟨_,h⟩
 ·exact x5c hx h hn hn2
 ·split at h
  ·exact x5d hx h hn2
  ·exact x8b hx h hn
theorem v1t {x floor:Nat} {st st':St} {ts:List TypeId} {xs:List AVal} {v:AVal} (h:w4k P floor st ts xs=some (v,st')) (hn: ∀off len cap r,xs≠ .sl x off len cap::r):x2o x st st':=by
 unfold w4k at h;split at h
 ·split at h
  ·split at h
   ·split at h
    ·obtain ⟨_,h⟩:=Zs h;split at h
     ·simp only [Ae,Ad] at h;obtain ⟨_,rfl⟩:=h;rfl
     ·obtain ⟨_,h⟩:=Zs h;simp only [Ae,Ad] at h;obtain ⟨_,rfl⟩:=h;rfl
     ·have hb:=fun e=>hn _ _ _ _ (AW (fun b=>AVal.sl b _ _ _::_) e);dsimp only at h;split at h
      ·obtain ⟨hc,h⟩:=Zs h;simp only [Ae,Ad] at h;obtain ⟨_,rfl⟩:=h;exact Kg st _ hb
      ·cases h
     ·cases h
    ·cases h
   ·cases h
  ·cases h
 ·cases h
theorem y8t {x:Nat} {cx:Ctx} {st st':St} {ts:List TypeId} {b sz off len:Nat} {y v:AVal} (h:y3j P cx st ts b sz off len y=some (v,st')) (hn:b≠x):x2o x st st':=by
 unfold y3j at h;split at h
 ·split at h
  ·split at h
   ·split at h
    ·obtain ⟨_,h⟩:=Zs h;simp only [Aq,Ad] at h;obtain ⟨_,h1,_,rfl⟩:=h;obtain ⟨_,o2,_,_⟩:=Xi h1;show Yn _ x=_;rw [o2];exact Kg st _ hn
    ·cases h
   ·cases h
  ·cases h
 ·cases h
theorem w4j {x:Nat} {cx:Ctx} {st st':St} {ts:List TypeId} {xs:List AVal} {v:AVal} (h:x2m P cx st ts xs=some (v,st')) (hn: ∀off len cap r,xs≠ .sl x off len cap::r) (hn2: ∀sz off len cap r,xs≠ .sla x sz off len cap::r) (hn3: ∀sz off len r,xs≠ .slv x sz off len::r):x2o x st st':=by
 unfold x2m at h;split at h
 ·exact y8t h fun e=>hn2 _ _ _ _ _ (by rw [e])
 ·exact y8t h fun e=>hn3 _ _ _ _ (by rw [e])
 ·exact v1t h hn
theorem w4l {x floor:Nat} {st st':St} {ts:List TypeId} {xs:List AVal} {v:AVal} (h:y8u P floor st ts xs=some (v,st')) (hn: ∀off len cap r,xs≠ .sl x off len cap::r):x2o x st st':=by
 unfold y8u at h;split at h
 ·split at h
  ·split at h
   ·split at h
    ·simp only [Ae,Ad] at h;obtain ⟨_,rfl⟩:=h;rfl
    ·have hb:=fun e=>hn _ _ _ _ (AW (fun b=>AVal.sl b _ _ _::_) e);rcases Jg h with ⟨_,h⟩ | ⟨_,h⟩
     ·simp only [Ae,Ad] at h;obtain ⟨_,rfl⟩:=h;rfl
     ·obtain ⟨hc,h⟩:=Zs h;split at h
      ·obtain ⟨_,h⟩:=Zs h;simp only [Ae,Ad] at h;obtain ⟨_,rfl⟩:=h;exact Kg st _ hb
      ·cases h
    ·cases h
   ·cases h
  ·cases h
 ·cases h
theorem x7y {S:Specs} {R:Runner} {lift:Bool} {op:Op} {cx:Ctx} {st st':St} {v:AVal} {x:Nat} (hk:Xk op=.chain) (hx:x<st.next) (hn:x5h op st.eval≠some x) (h:We P S R lift op cx st=some (v,st')):x2o x st st':=by
 cases op with
 | store t a y=>
  simp only [We] at h;split at h
  ·rename_i b sz r fo hb;simp only [Aq,Ad] at h;obtain ⟨_,h,_,rfl⟩:=h;exact x7u h fun sz r fo e=>hn (by simp only [x5h,hb];cases e;rfl)
  ·simp only [Aq,Ad] at h;obtain ⟨_,h,_,rfl⟩:=h;exact w4e h fun off e=>hn (by simp only [x5h,e])
 | box t y=>unfold We at h;simp only at h;obtain ⟨_,h⟩:=Zs h;simp only [Ae,Ad] at h;obtain ⟨_,rfl⟩:=h;exact z5x st _ _ hx
 | buildSlice t n ps=>exact y3p hx h
 | makeSlice t l c=>
  unfold We at h;simp only at h;rcases Jg h with ⟨_,h⟩ | ⟨_,h⟩
  ·rcases Jg h with ⟨_,h⟩ | ⟨_,h⟩
   ·exact (z5t (st:=st.dropO) hx h)
   ·exact (y3m (st:=st.dropO) hx h)
  ·exact z5t hx h
 | call c=>
  obtain ⟨callee,args,argTypes⟩:=c;cases callee with
  | builtin b=>
   cases b <;> first
    | (simp [Xk] at hk;done)
    | exact x5e hx h (fun off len cap r e=>hn (by simp only [x5h,e])) (fun sz off len cap r e=>hn (by simp only [x5h,e]))
    | exact w4j h (fun off len cap r e=>hn (by simp only [x5h,e])) (fun sz off len cap r e=>hn (by simp only [x5h,e])) (fun sz off len r e=>hn (by simp only [x5h,e]))
    | exact w4l h fun off len cap r e=>hn (by simp only [x5h,e])
  | value f=>simp [Xk] at hk
  | invoke r m=>simp [Xk] at hk
 | _=>simp [Xk] at hk
theorem Kn : ∀(d:Nat) (a:AVal) (u:Value),pf d a=true→Yw ρ a u→Yw ρ.bare a u
 | 0,_,_,h,_=>by simp [pf] at h
 | d+1,a,u,h,hr=>by
  cases hr with
  | undef=>simp [pf] at h
  | bool=>exact .bool _
  | int=>exact .int _ _
  | str=>exact .str _
  | agg cs vs hl hh=>simp only [pf,At] at h;exact .agg cs vs hl fun i h1 h2=>Kn d _ _ (h _ (AM h1)) (hh i h1 h2)
  | tup cs vs hl hh=>simp only [pf,At] at h;exact .tup cs vs hl fun i h1 h2=>Kn d _ _ (h _ (AM h1)) (hh i h1 h2)
  | ptr=>simp [pf] at h
  | nilp=>exact .nilp
  | sl=>simp [pf] at h
  | sla=>simp [pf] at h
  | slan=>simp [pf] at h
  | slv=>simp [pf] at h
  | slve=>simp [pf] at h
  | slvn=>simp [pf] at h
  | epa=>simp [pf] at h
  | nils=>exact .nils
  | fn f cs vs hl hh=>obtain rfl:cs=[]:=List.isEmpty_iff.1 h;exact .fn f [] vs hl fun i h1=>absurd h1 (AO _)
  | nilf=>exact .nilf
  | fnb=>simp [pf] at h
  | yld=>simp [pf] at h
  | ifc=>simp [pf] at h
  | nili=>exact .nili
  | dat len get blk base sz cap val dW hsz hv hh=>exact .dat len get blk base sz cap val dW hsz hv hh
  | datn get=>exact .datn get
  | datz get a c=>exact .datz get a c
  | dptr cs blk base val hv hh=>exact .dptr cs blk base val hv hh
def ValOk (P:Program) (f:FuncId) (F:List AVal→Option (AVal×Bool)):Prop:=
 ∀args v,F args=some (v,true)→ ∀(H:Old) (vals:Array Value) (w:World),Vj (Yw (z2w H)) args vals.toList→(∀k o,H k=some o→w.heap[k]? =some o)→
  Calls P f vals w fun e w'=> ∃H' u,(∀k o,H k=some o→H' k=some o)∧(∀k o,H' k=some o→w'.heap[k]? =some o)∧(∀k,k<w.heap.size→H' k=H k)∧e=.returned u∧Yw (z2w H') v u∧RowKit.Below w.heap.size w w'
def x8i (P:Program) (f:FuncId) (F:List AVal→Mem→Option (AVal×Nat×ABlk×Bool)):Prop:=
 ∀args mem v b blk,F args mem=some (v,b,blk,true)→(Yn mem b).isSome =true→ ∀(ρ:Rho) (next floor:Nat) (vals:Array Value) (w:World),floor≤b→Vj (Yw ρ) args vals.toList→Rel ρ mem next w→
  Calls P f vals w fun e w'=> ∃u,e=.returned u∧Yw ρ v u∧Rel ρ (Wz mem b (some blk)) next w'∧Ev ρ ρ floor mem next (Wz mem b (some blk)) next w w'
def u8n (H:Old) (l:Option Loc):Rho:=⟨fun b=>if b=0 then l else none,H,fun _=>none⟩
def mem1 (ty:TypeId) (sz n:Nat) (get:Nat→List AVal):Mem:=Wz .leaf 0 (some ⟨Yq n get,ty,some ⟨sz,n,.flat get⟩⟩)
def GroOk (P:Program) (f:FuncId) (ty:TypeId) (F:Nat→(Nat→List AVal)→List AVal→Option (Nat×(Nat→List AVal)×Bool)):Prop:=
 ∀ (sz n:Nat) (get:Nat→List AVal) (r:List AVal) (n':Nat) (g:Nat→List AVal),F n get r=some (n',g,true)→plR sz n get=true→plR sz n' g=true→1≤sz→ ∀(H:Old) (l:Option Loc) (vals:Array Value) (w:World),
  Vj (Yw (u8n H l)) (.sla 0 sz 0 n (.un sz)::r) vals.toList→Rel (u8n H l) (mem1 ty sz n get) 1 w→(∀k o,w.heap[k]? =some o→(∃l0,l=some l0∧l0.blk=k)∨H k=some o)→
  Calls P f vals w fun e w'=> ∃ρ' u m' nx b ty',e=.returned u∧Yw ρ' (.sla b sz 0 n' (.un sz)) u∧Yn m' b=some ⟨Yq n' g,ty',some ⟨sz,n',.flat g⟩⟩∧Rel ρ' m' nx w'∧
   (∀k o,H k=some o→ρ'.fz k=some o)∧w.heap.size≤w'.heap.size∧w'.os=w.os∧w'.tape=w.tape∧w'.output=w.output
def SpecOk (P:Program) (f:FuncId):Spec→Prop
 | .val F=>ValOk P f F
 | .eff F=>x8i P f F
 | .gro ty F=>GroOk P f ty F
def Zu (P:Program) (S:Specs):Prop:=
 ∀f F,S f=some F→(∃fn,P.funcs[f]? =some fn∧fn.body.isSome=true)∧SpecOk P f F
def y0s (P:Program):Prop:= ∀(f:FuncId) (fn:Func),P.funcs[f]? =some fn→fn.body.isSome=true→(fn.name == "runtime.NumGoroutine")=false
def ROk (P:Program) (R:Runner):Prop:=
 ∀ cx todo st st',cx.floor≤st.next→R cx todo st=some st'→st'.ob=true→ ∀(ρ:Rho) (a:Act) (w:World) (b:Frame) (cs:List Frame),a.defers=[]→Wg ρ st.env cx.n a.tmps→Rel ρ st.mem st.next w→
  ∃ρ' a' todo' w',Steps P (lone (b.at a todo) cs w) (lone {b.at a' todo' with mode:=.returning} cs w')∧a'.defers=[]∧Wg ρ' st'.env cx.n a'.tmps∧Rel ρ' st'.mem st'.next w'∧
   Ev ρ ρ' cx.floor st.mem st.next st'.mem st'.next w w'
theorem y8b : ∀(args:List AVal) (i:Nat) (t:T AVal) (k:Nat),T.get .undef (y2c args i t) k=if i≤k∧k<i+args.length then args.getD (k - i) .undef else T.get .undef t k
 | [],i,t,k=>by rw [Ay (by intro h;simp at h;omega)];rfl
 | a::r,i,t,k=>by
  simp only [y2c];rw [y8b r (i+1) _ k,T.get_set];by_cases h1:k=i
  ·subst h1;rw [Ay (by omega),AC rfl,AC (by simp)];simp
  ·by_cases h2:i+1≤k∧k<i+1+r.length
   ·rw [AC h2,AC (by simp;omega)];have:k - i=(k - (i+1))+1:=(by omega);rw [this];simp
   ·rw [Ay h2,Ay h1,Ay (by simp;omega)]
def x6c (tmps:Array Value):ResultVar→Sem Value
 | .tmp t=>pure (tmps.getD t undef)
 | .cell a t=>do loadVar t (←asAddr (tmps.getD a undef))
theorem w9t (fn:Func) (tmps:Array Value):results fn tmps=(do
  let vs←fn.results.mapM (x6c tmps)
  pure (if h:vs.size=1 then vs[0] else .tuple vs)):=by
 unfold results;have:(fun r:ResultVar=>(match r with | .tmp t=>pure (tmps.getD t undef) | .cell a t=>do loadVar t (←asAddr (tmps.getD a undef)):Sem Value))=x6c tmps:=by
  funext r
  cases r <;> rfl
 rw [←this];rfl
theorem x4x {st:St} {w:World} {tmps:Array Value} {n:Nat} (dU:Wg ρ st.env n tmps) (dQ:Rel ρ st.mem st.next w) {r:ResultVar} {v:AVal} (h:x4y P st r=some v):
  ∃u,Yw ρ v u∧(x6c tmps r).run P w=.ok u w:=by
 have get: ∀t,Yw ρ (st.tmp t) (tmps.getD t undef):=fun t=>dU.get t;cases r with
 | tmp t=>simp only [x4y,Ae] at h;subst h;exact ⟨_,get t,rfl⟩
 | cell a t=>
  simp only [x4y] at h;obtain ⟨z,hz,hr⟩:=y8q dQ h (get a);refine ⟨z,hz,?_⟩;have ha:=get a;unfold x6c;simp only;generalize tmps.getD a undef=u at ha hr ⊢;unfold w4g at h;split at h
  ·rename_i e;rw [e] at ha;cases ha
   simpa [Instr.loadAt,Instr.sureAddr,asAddr] using hr
  ·rename_i e;rw [e] at ha;cases ha
   simpa [Instr.loadAt,Instr.sureAddr,asAddr] using hr
  ·cases h
theorem z7e {st:St} {w:World} {tmps:Array Value} {n:Nat} (dU:Wg ρ st.env n tmps) (dQ:Rel ρ st.mem st.next w): ∀{rs:List ResultVar} {vs:List AVal},Qz P st rs=some vs→
  ∃us,Vj (Yw ρ) vs us∧(rs.mapM (x6c tmps)).run P w=.ok us w
 | [],vs,h=>by simp only [Qz,Ae] at h;subst h;exact ⟨[],.nil,by simp⟩
 | r::rs,vs,h=>by
  unfold Qz at h;split at h
  ·rename_i v vs' h1 h2;obtain rfl:=Af h;obtain ⟨u,hu,hr⟩:=x4x dU dQ h1;obtain ⟨us,hus,hrs⟩:=z7e dU dQ h2;refine ⟨u::us,.cons hu hus,?_⟩;rw [List.mapM_cons,Sem.run_bind,hr];simp only [Result.andThen_ok,Sem.run_bind,hrs,Sem.run_pure]
  ·cases h
theorem z3s {fn:Func} {st:St} {w:World} {tmps:Array Value} {n:Nat} (dU:Wg ρ st.env n tmps) (dQ:Rel ρ st.mem st.next w) {vs:List AVal} (h:Qz P st fn.results.toList=some vs):
  ∃u,Yw ρ (z0h vs) u∧(results fn tmps).run P w=.ok u w:=by
 obtain ⟨us,hus,hr⟩:=z7e dU dQ h;refine ⟨if h:us.toArray.size=1 then us.toArray[0] else .tuple us.toArray,?_,?_⟩
 ·cases hus with
  | nil=>exact .tup [] _ rfl fun i h1 _=>by simp at h1
  | cons h1 hs=>cases hs with
   | nil=>simpa [z0h] using h1
   | cons h2 hs=>have eZ:=Vj.cons h1 (Vj.cons h2 hs);have hl:=eZ.length;simp only [z0h];rw [dif_neg (by simp)];exact .tup _ _ (by simpa using hl) fun i h1 h2=>by simpa using eZ.get i h1 (by simpa using h2)
 ·rw [w9t,Sem.run_bind,Array.mapM_eq_mapM_toList,Sem.run_map,hr];rfl
theorem y8a {args:List AVal} {vals:Array Value} (h:Vj (Yw ρ) args vals.toList) (ntmps:Nat):
  Wg ρ (y2c args 0 .leaf) (Nat.max ntmps args.length) (vals++Array.replicate (ntmps - vals.size) undef):=by
 have hl:args.length=vals.size:=by simpa using h.length
 have hmax:Nat.max ntmps args.length=vals.size+(ntmps - vals.size):=by have:Nat.max ntmps args.length=max ntmps args.length:=rfl;rw [this];omega
 refine ⟨by rw [hmax];simp,fun i=> ?_,fun i hi=> ?_⟩
 ·rw [y8b];by_cases hi:i<args.length
  ·rw [AC (by omega)];have h2:i<vals.toList.length:=by rw [←h.length];exact hi
   have:=h.get i hi h2;have e1:args.getD (i - 0) .undef =args[i]:=by simp [hi]
   have e2:(vals++Array.replicate (ntmps - vals.size) undef).getD i undef=vals.toList[i]:=by have h3:i<vals.size:=(by simpa using h2);simp [Array.getElem?_append,h3]
   rw [e1,e2];exact this
  ·rw [Ay (by omega)];exact .undef _
 ·have hle:args.length≤Nat.max ntmps args.length:=Nat.le_max_right _ _;rw [y8b,Ay (by omega)];rfl
theorem z3b {f:FuncId} {fn:Func} (hN:y0s P) (hf:P.funcs[f]? =some fn) (hb:fn.body.isSome=true) (args:Array Value) (w:World):(callFunc f args).run P w=.ok (.enter f args) w:=by
 have h1: ¬fn.name= "runtime.NumGoroutine" :=by simpa using hN f fn hf hb
 have h2: ¬fn.body=none:=by intro e;rw [e] at hb;cases hb
 simp [callFunc,hf,h1,h2]
theorem x8s {mem:Mem} {next:Nat} {w:World} (h:Rel ρ mem next w) {a a':AVal} {o:Bool} (hv:j1c mem a=(a',o)) (ho:o=true) {u:Value} (hr:Yw ρ a u) (hp:pf 3 a'=true):Yw (z2w fun k=>w.heap[k]?) a' u:=by
 subst ho;have hle:ρ.bare.le (z2w fun k=>w.heap[k]?):=⟨fun _ _ e=>(by cases e),fun k o e=>h.old k o e,fun _ _ e=>(by cases e)⟩
 unfold j1c at hv;split at hv
 ·rename_i b sz off len cap;split at hv
  ·rename_i blk hm;split at hv
   ·rename_i A hA;simp only [Ad,Ac,As] at hv;obtain ⟨rfl,h1,h2,h3⟩:=hv;obtain rfl:=Ak h1;have h3:= @AA _ (Classical.propDecidable _) h3;cases hr with
    | slan=>exact .datn _
    | sla _ _ _ _ _ l c hρ dW dR=>
     obtain ⟨eV,fW,eF⟩:=(h.blk b l blk hρ hm).arr A hA;obtain ⟨cur,el,hh,_⟩:=(h.blk b l blk hρ hm).cells;refine .dat len _ l.blk (l.base+off*A.sz) A.sz c (fun i j=>(w.cell? ⟨l.blk,l.base+(off+i)*A.sz+j,none⟩).getD undef) dR (fun i hi=>eF _ (by omega)) (fun i j hi hj=> ?_) (fun i j hi hj=> ?_)
     ·obtain ⟨v,e1,e2⟩:=(h.rowAt hρ hm hA (r:=off+i) (by omega)) j hj;simp only [e1,Option.getD_some];exact (Kn 6 _ _ (At.1 (h3 (off+i)) _ (AM hj)) e2).mono hle
     ·obtain ⟨v,e1,e2⟩:=(h.rowAt hρ hm hA (r:=off+i) (by omega)) j (by rw [eF _ (by omega)];exact hj);simp only [e1,Option.getD_some];refine ⟨cur,el,(0,0),hh,?_⟩;simp only [World.cell?,hh] at e1;rw [←e1]
      congr 1
      rw [AR];omega
   ·simp only [Ad] at hv;obtain ⟨rfl,_⟩:=hv;simp [pf] at hp
  ·simp only [Ad] at hv;obtain ⟨rfl,_⟩:=hv;simp [pf] at hp
 ·simp only [Ad] at hv;obtain ⟨rfl,_⟩:=hv;exact (Kn 3 _ _ hp hr).mono hle
theorem x8t {mem:Mem} {next:Nat} {w:World} (h:Rel ρ mem next w) {az:List AVal} {us:List Value} (hr:Vj (Yw ρ) az us): ∀{az':List AVal} {o:Bool},v2j mem az=(az',o)→o=true→az'.all (pf 3)=true→Vj (Yw (z2w fun k=>w.heap[k]?)) az' us:=by
 induction hr with
 | nil=>intro az' o hv _ _;simp only [v2j,Ad] at hv;obtain ⟨rfl,_⟩:=hv;exact .nil
 | @cons a b l m h1 _ ih=>intro az' o hv ho hp;unfold v2j at hv;split at hv;rename_i a1 o1 as1 q1 e1 e2;simp only [Ad] at hv;obtain ⟨rfl,rfl⟩:=hv;simp only [Ac] at ho;simp only [List.all_cons,Ac] at hp;exact .cons (x8s h e1 ho.1 h1 hp.1) (ih e2 ho.2 hp.2)
theorem w8q {σ:Rho} {v:AVal} {u:Value} (hs:scal v=true) (h:Yw σ v u):Yw ρ v u:=by
 cases h with
 | bool=>exact .bool _
 | int=>exact .int _ _
 | str=>exact .str _
 | tup cs vs hl hh=>
  simp only [scal,At] at hs;refine .tup cs vs hl fun i h1 h2=> ?_;have k1:=hs _ (AM h1);have k2:=hh i h1 h2;generalize cs[i]=a at k1 k2;generalize vs[i]=b at k2;cases k2 with
  | undef=>exact .undef _
  | bool=>exact .bool _
  | int=>exact .int _ _
  | str=>exact .str _
  | _=>simp at k1
 | _=>simp [scal] at hs
theorem u3h {sz n:Nat} {get:Nat→List AVal} (h:plR sz n get=true): ∀i,i<n→(get i).length =sz∧(get i).all pl=true:= @AA _ (Classical.propDecidable _) h
theorem v4m {sz n:Nat} {get:Nat→List AVal} (h:plR sz n get=true): ∀v∈Yq n get,pl v=true:=fun v hv=>by obtain ⟨i,hi,hv⟩:=AN.1 hv;exact At.1 (u3h h i (A0.1 hi)).2 v hv
theorem pl_any {v:AVal} {u:Value} {ρ':Rho} (h:pl v=true) (hr:Yw ρ v u):Yw ρ' v u:=by
 cases hr <;> first | exact .bool _ | exact .int _ _ | (cases h;done)
theorem Jz.pl {w:World} {ab:ABlk} {l:Loc} (h:Jz ρ w ab l) (hp: ∀v∈ab.cells,pl v=true) (ρ':Rho):Jz ρ' w ab l:=by obtain ⟨h1,h2,h3,cs,el,h4,h5,h6⟩:=h;refine ⟨h1,h2,h3,cs,el,h4,h5,fun i hi=> ?_⟩;obtain ⟨v,q1,q2⟩:=h6 i hi;exact ⟨v,q1,pl_any (hp _ (AM hi)) q2⟩
theorem v7c {f:FuncId} {F:Nat→(Nat→List AVal)→List AVal→Option (Nat×(Nat→List AVal)×Bool)} {ty:TypeId} (hF:GroOk P f ty F) {floor next:Nat} {mem:Mem} {b sz n:Nat} {r:List AVal} {cells:List AVal} {A:Arr} (hm:Yn mem b=some ⟨cells,ty,some A⟩)
  (hA:A.sz=sz∧A.n=n) (hr:r.all (pf 3)=true) (hfl:floor≤b) (hsz:1≤sz) {n':Nat} {g:Nat→List AVal} (hv:F n A.get r=some (n',g,true)) (hp:plR sz n A.get=true) (hp':plR sz n' g=true)
  {vals:Array Value} (dT:Vj (Yw ρ) (.sla b sz 0 n (.un sz)::r) vals.toList) {w:World} (dQ:Rel ρ mem next w):
  Calls P f vals w fun e w'=> ∃ρ' u,e=.returned u∧Yw ρ' (.sla next sz 0 n' (.un sz)) u∧Rel ρ' (Wz (Wz mem b none) next (some ⟨Yq n' g,ty,some ⟨sz,n',.flat g⟩⟩)) (next+1) w'∧
   Ev ρ ρ' floor mem next (Wz (Wz mem b none) next (some ⟨Yq n' g,ty,some ⟨sz,n',.flat g⟩⟩)) (next+1) w w':=by
 obtain ⟨rfl,rfl⟩:=hA;have hbn:b<next:=by
  rcases Bm b next with h | h
  ·exact h
  ·rw [dQ.bd b h] at hm;cases hm
 let H:Old:=fun k=>if∃l,ρ b=some l∧l.blk=k then none else w.heap[k]?
 have hH: ∀k,(¬ ∃l,ρ b=some l∧l.blk=k)→H k=w.heap[k]? :=fun k hk=>Ay hk;have hHs: ∀k o,H k=some o→w.heap[k]? =some o∧ ¬ ∃l,ρ b=some l∧l.blk=k:=fun k o e=>by
  by_cases hk: ∃l,ρ b=some l∧l.blk=k
  ·have:H k=none:=AC hk;rw [this] at e;cases e
  ·rw [hH k hk] at e;exact ⟨e,hk⟩
 have hfz: ∀k o,ρ.fz k=some o→H k=some o:=fun k o e=>by
  rw [hH k fun ⟨l,h1,h2⟩=>by
   have:=dQ.sep b l h1 (by rw [hm];rfl);rw [h2,e] at this;cases this]
  exact dQ.old k o e
 have hbare:ρ.bare.le (u8n H (ρ b)):=⟨fun _ _ e=>(by cases e),hfz,fun _ _ e=>(by cases e)⟩
 have key: ∀(n0:Nat) (u:Value),Yw ρ (.sla b A.sz 0 n0 (.un A.sz)) u→Yw (u8n H (ρ b)) (.sla 0 A.sz 0 n0 (.un A.sz)) u:=fun n0 u h1=>by
  cases h1 with
  | sla _ _ _ _ _ l c h hc dR=>exact .sla 0 _ 0 _ _ l c (by show (if (0:Nat)=0 then ρ b else none)=_;rw [AC rfl];exact h) hc dR
  | slan _ _ _ _=>exact .slan _ _ _ _
 have hargs1:Vj (Yw (u8n H (ρ b))) (.sla 0 A.sz 0 A.n (.un A.sz)::r) vals.toList:=by
  generalize vals.toList=us at dT;cases dT with
  | cons h1 h2=>
   refine .cons ?_ ?_
   ·exact key _ _ h1
   ·exact Vj.of h2.length fun i g1 g2=>(Kn 3 _ _ (At.1 hr _ (AM g1)) (h2.get i g1 g2)).mono hbare
 have hget0: ∀l,u8n H (ρ b) 0=some l↔ρ b=some l:=fun l=>Iff.rfl;have eU: ∀c l,u8n H (ρ b) c=some l→c=0∧ρ b=some l:=fun c l e=>by
  have e:(if c=0 then ρ b else none)=some l:=e;by_cases hc:c=0
  ·rw [AC hc] at e;exact ⟨hc,e⟩
  ·rw [Ay hc] at e;cases e
 have hm1:Yn (mem1 ty A.sz A.n A.get) 0=some ⟨Yq A.n A.get,ty,some ⟨A.sz,A.n,.flat A.get⟩⟩:=Yj _ _ _;have eX:Rel (u8n H (ρ b)) (mem1 ty A.sz A.n A.get) 1 w:=by
  refine ⟨fun c l e=>by rw [(eU c l e).1];omega,fun c c' l l' e e' _ _ _=>by rw [(eU c l e).1,(eU c' l' e').1],fun c l ab e hc=> ?_,fun k o e=>(hHs k o e).1,fun c l e _=> ?_,fun c l e=>dQ.real b l (eU c l e).2,fun c hc=> ?_,fun j l e=>by cases e⟩
  ·obtain ⟨rfl,e2⟩:=eU c l e;rw [hm1] at hc;obtain rfl:=Af hc;have q:=dQ.blk b l _ e2 hm;obtain ⟨q1,q2,q3,cs,el,q4,q5,q6⟩:=q;obtain ⟨a1,a2,a3⟩:=q3 A rfl;simp only at a1;subst a1;have q':Jz ρ w ⟨Yq A.n A.get,ty,some ⟨A.sz,A.n,.flat A.get⟩⟩ l:=⟨q1,q2,fun B e=>by
    obtain rfl:=Af e;exact ⟨rfl,a2,a3⟩,cs,el,q4,q5,q6⟩
   exact q'.pl (v4m hp) _
  ·obtain ⟨_,e2⟩:=eU c l e;exact AC ⟨l,e2,rfl⟩
  ·show Yn (Wz .leaf 0 _) c=none;rw [Zw _ _ (by omega)];rfl
 have eZ: ∀k o,w.heap[k]? =some o→(∃l0,ρ b=some l0∧l0.blk=k)∨H k=some o:=fun k o e=>by
  by_cases hk: ∃l',ρ b=some l'∧l'.blk=k
  ·exact .inl hk
  ·exact .inr ((hH k hk).trans e)
 refine (hF A.sz A.n A.get r n' g hv hp hp' hsz H (ρ b) vals w hargs1 eX eZ).mono fun e w' ⟨ρ1,u,m',nx,b1,ty',he,hu,hmb,hr1,hfz1,gE,hos,htape,hout⟩=> ?_;have hgone: ∀k,(¬ ∃l,ρ b=some l∧l.blk=k)→ ∀o,w.heap[k]? =some o→w'.heap[k]? =some o∧ρ1.fz k=some o:=fun k hk o e=>by have h2:=hfz1 k o ((hH k hk).trans e);exact ⟨hr1.old k o h2,h2⟩
 let ρ':Rho:=⟨fun c=>if c=next then ρ1 b1 else ρ c,ρ.fz,ρ.lp⟩
 have dY: ∀c l,ρ' c=some l→(c=next∧ρ1 b1=some l)∨(c≠next∧ρ c=some l):=fun c l e=>by
  have e:(if c=next then ρ1 b1 else ρ c)=some l:=e;by_cases hc:c=next
  ·rw [AC hc] at e;exact .inl ⟨hc,e⟩
  ·rw [Ay hc] at e;exact .inr ⟨hc,e⟩
 have hnew:ρ' next=ρ1 b1:=AC rfl
 have holdc: ∀c,c<next→ρ' c=ρ c:=fun c hc=>Ay (by omega)
 have hle:ρ.le ρ':=⟨fun c l e=>by rw [holdc c (dQ.dom c l e)];exact e,fun _ _ e=>e,fun _ _ e=>e⟩
 have hm': ∀c,c≠next→Yn (Wz (Wz mem b none) next (some ⟨Yq n' g,ty,some ⟨A.sz,n',.flat g⟩⟩)) c=if c=b then none else Yn mem c:=fun c hc=>by
  rw [Zw _ _ hc];by_cases hcb:c=b
  ·rw [AC hcb,hcb,Yj]
  ·rw [Ay hcb,Zw _ _ hcb]
 have hmn:Yn (Wz (Wz mem b none) next (some ⟨Yq n' g,ty,some ⟨A.sz,n',.flat g⟩⟩)) next=some ⟨Yq n' g,ty,some ⟨A.sz,n',.flat g⟩⟩:=Yj _ _ _
 have hother: ∀c l,ρ c=some l→(Yn mem c).isSome =true→c≠b→ ¬ ∃l',ρ b=some l'∧l'.blk=l.blk:=fun c l e hs hcb ⟨l',e',hb⟩=>hcb (dQ.inj c b l l' e e' hb.symm hs (by rw [hm];rfl));have fY: ∀c l,ρ c=some l→ ∃o,w.heap[l.blk]? =some o:=fun c l e=>⟨_,Bj (dQ.real c l e)⟩
 have hsepn: ∀l,ρ1 b1=some l→ρ1.fz l.blk=none:=fun l e=>hr1.sep b1 l e (by rw [hmb];rfl);have eC:Yw ρ' (.sla next A.sz 0 n' (.un A.sz)) u:=by
  cases hu with
  | sla _ _ _ _ _ l c h hc dR=>exact .sla next _ 0 _ _ l c (hnew.trans h) hc dR
  | slan _ _ _ _=>exact .slan _ _ _ _
 refine ⟨ρ',u,he,eC,?_,?_⟩
 ·refine ⟨fun c l e=> ?_,fun c c' l l' e e' hbl hs hs'=> ?_,fun c l ab e hc=> ?_,fun k o e=> ?_,fun c l e hs=> ?_,fun c l e=> ?_,fun c hc=> ?_,fun j l e=>BQ (dQ.ldom j l e)⟩
  ·rcases dY c l e with ⟨rfl,_⟩ | ⟨_,e⟩
   ·omega
   ·have:=dQ.dom c l e;omega
  ·have clash: ∀c l l',c≠next→ρ c=some l→ρ1 b1=some l'→l.blk=l'.blk→(Yn (Wz (Wz mem b none) next (some ⟨Yq n' g,ty,some ⟨A.sz,n',.flat g⟩⟩)) c).isSome =true→False:=fun c l l' hc e e' hbl hs=>by
    rw [hm' c hc] at hs;by_cases hcb:c=b
    ·rw [AC hcb] at hs;cases hs
    ·rw [Ay hcb] at hs;obtain ⟨o,ho⟩:=fY c l e;have:=(hgone l.blk (hother c l e hs hcb) o ho).2;rw [hbl,hsepn l' e'] at this;cases this
   rcases dY c l e with ⟨h1,h2⟩ | ⟨h1,h2⟩ <;> rcases dY c' l' e' with ⟨h1',h2'⟩ | ⟨h1',h2'⟩
   ·rw [h1,h1']
   ·exact (clash c' l' l h1' h2' h2 hbl.symm hs').elim
   ·exact (clash c l l' h1 h2 h2' hbl hs).elim
   ·rw [hm' c h1] at hs;rw [hm' c' h1'] at hs';by_cases hcb:c=b
    ·rw [AC hcb] at hs;cases hs
    ·by_cases hcb':c'=b
     ·rw [AC hcb'] at hs';cases hs'
     ·rw [Ay hcb] at hs;rw [Ay hcb'] at hs';exact dQ.inj c c' l l' h2 h2' hbl hs hs'
  ·rcases dY c l e with ⟨h1,h2⟩ | ⟨h1,h2⟩
   ·subst h1;rw [hmn] at hc;obtain rfl:=Af hc;have q:=(hr1.blk b1 l _ h2 hmb).pl (v4m hp') ρ';exact ⟨q.n,q.tot,q.arr,q.cells⟩
   ·rw [hm' c h1] at hc;by_cases hcb:c=b
    ·rw [AC hcb] at hc;cases hc
    ·rw [Ay hcb] at hc;obtain ⟨o,ho⟩:=fY c l h2;refine (dQ.blk c l ab h2 hc).world hle ?_;rw [(hgone l.blk (hother c l h2 (by rw [hc];rfl) hcb) o ho).1,ho]
  ·have h1:=hfz k o e;obtain ⟨h2,h3⟩:=hHs k o h1;exact (hgone k h3 o h2).1
  ·rcases dY c l e with ⟨h1,h2⟩ | ⟨h1,h2⟩
   ·cases hq:ρ.fz l.blk with
    | none=>rfl
    | some o=>exfalso;have h1:=hfz _ _ hq;have h3:=hfz1 l.blk o h1;rw [hsepn l h2] at h3;cases h3
   ·rw [hm' c h1] at hs;by_cases hcb:c=b
    ·rw [AC hcb] at hs;cases hs
    ·rw [Ay hcb] at hs;exact dQ.sep c l h2 hs
  ·rcases dY c l e with ⟨h1,h2⟩ | ⟨h1,h2⟩
   ·exact hr1.real b1 l h2
   ·exact Ba (dQ.real c l h2) gE
  ·rw [hm' c (by omega),Ay (by omega)];exact dQ.bd c (by omega)
 ·refine ⟨hle,fun c hc=>holdc c hc,by omega,fun c hc hn cs ty2 hq=> ?_,fun k o hk hn=> ?_,fun c l hc e=> ?_,gE,hos,htape,hout,fun k _=>rfl⟩
  ·rw [hm' c (by omega)];by_cases hcb:c=b
   ·rw [hcb,hm] at hq;cases hq
   ·rw [Ay hcb];exact hq
  ·exact (hgone k (fun ⟨l,h1,h2⟩=>hn b l h1 hfl h2) o hk).1
  ·rcases dY c l e with ⟨h1,h2⟩ | ⟨h1,h2⟩
   ·rcases Bm l.blk w.heap.size with h | h
    ·rcases eZ l.blk _ (Bj h) with ⟨l0,h3,h4⟩ | h3
     ·exact .inr ⟨b,l0,h3,hfl,h4⟩
     ·have h4:=hfz1 _ _ h3;rw [hsepn l h2] at h4;cases h4
    ·exact .inl h
   ·have:=dQ.dom c l h2;omega
theorem y8v {S:Specs} {R:Runner} (hS:Zu P S) (hR:ROk P R) {lift:Bool} {f:FuncId} {args:List AVal} {cx:Ctx} {st st':St} {v:AVal} (hcx:cx.floor≤st.next) (h:v1x P S R lift f args cx st=some (v,st')) (hob:st'.ob=true)
  {vals:Array Value} (dT:Vj (Yw ρ) args vals.toList) {w:World} (dQ:Rel ρ st.mem st.next w):
  (∃fn,P.funcs[f]? =some fn∧fn.body.isSome=true)∧Calls P f vals w fun e w'=> ∃ρ' u,e=.returned u∧x5k ρ cx.floor st st' v w ρ' u w':=by
 unfold v1x at h;split at h
 ·rename_i F hF;rcases Jg h with ⟨hca,h⟩ | ⟨_,h⟩
  ·split at h
   ·rename_i v' b hFa;obtain ⟨hc2,h⟩:=Zs h;have hc1:=At.1 hca;simp only [Aq,Ad] at h;obtain ⟨st1,h1,rfl,rfl⟩:=h;obtain ⟨_,e2,e3,e4⟩:=Xi h1;obtain ⟨rfl,_⟩:=e4 hob;obtain ⟨hfn,eH⟩:=hS f _ hF;refine ⟨hfn,?_⟩;have hargs0:Vj (Yw ρ.bare) args vals.toList:=Vj.of dT.length fun i g1 g2=>Kn 3 _ _ (hc1 _ (AM g1)) (dT.get i g1 g2);refine (eH args v' hFa ρ.fz vals w hargs0 dQ.old).mono fun e w' ⟨H',u,hle,hold,eB,he,hv,hb⟩=>⟨⟨ρ.f,H',ρ.lp⟩,u,he,Yw.mono (ρ:=z2w H') (ρ':=⟨ρ.f,H',ρ.lp⟩) ⟨fun _ _ e=>(by cases e),fun _ _ e=>e,fun _ _ e=>(by cases e)⟩ hv,?_,?_⟩
    ·rw [e2,e3];have hle':ρ.le ⟨ρ.f,H',ρ.lp⟩:=⟨fun _ _ e=>e,hle,fun _ _ e=>e⟩
     exact ⟨dQ.dom,dQ.inj,fun b l ab q1 q2=>(dQ.blk b l ab q1 q2).world hle' (hb.block _ (dQ.real b l q1)),hold,fun b l q hs=>(eB _ (dQ.real b l q)).trans (dQ.sep b l q hs),fun b l q=>Ba (dQ.real b l q) hb.size,dQ.bd,dQ.ldom⟩
    ·rw [e2,e3];exact ⟨⟨fun _ _ e=>e,hle,fun _ _ e=>e⟩,fun _ _=>rfl,Ar _,fun _ _ _ _ _ h=>h,fun k o hk _=>by rw [hb.block k (AJ.1 hk).1];exact hk,
      fun b l hb' hl=>by have:=dQ.dom b l hl;omega,hb.size,hb.os,hb.tape,hb.output,eB⟩
   ·cases h
  ·split at h;rename_i args' o hview;split at h
   ·rename_i v' b hFa;obtain ⟨hc,h⟩:=Zs h;simp only [Ac] at hc;simp only [Aq,Ad] at h;obtain ⟨st1,h1,rfl,rfl⟩:=h;obtain ⟨_,e2,e3,e4⟩:=Xi h1;obtain ⟨hob1,_⟩:=e4 hob;simp only [Ac] at hob1;obtain ⟨ho,rfl⟩:=hob1;obtain ⟨hfn,eH⟩:=hS f _ hF;refine ⟨hfn,?_⟩;have hargs0:=x8t dQ dT hview ho hc.1;refine (eH args' v' hFa (fun k=>w.heap[k]?) vals w hargs0 fun _ _ e=>e).mono fun e w' ⟨H',u,hle,hold,eB,he,hv,hb⟩=>⟨ρ,u,he,w8q hc.2 hv,?_,?_⟩
    ·rw [e2,e3];exact ⟨dQ.dom,dQ.inj,fun b l ab q1 q2=>(dQ.blk b l ab q1 q2).world (Rho.le_refl _) (hb.block _ (dQ.real b l q1)),fun k o q=>by rw [hb.block k (AJ.1 (dQ.old k o q)).1];exact dQ.old k o q,dQ.sep,fun b l q=>Ba (dQ.real b l q) hb.size,dQ.bd,dQ.ldom⟩
    ·rw [e2,e3];exact ⟨Rho.le_refl _,fun _ _=>rfl,Ar _,fun _ _ _ _ _ h=>h,fun k o hk _=>by rw [hb.block k (AJ.1 hk).1];exact hk,
      fun b l hb' hl=>by have:=dQ.dom b l hl;omega,hb.size,hb.os,hb.tape,hb.output,fun _ _=>rfl⟩
   ·cases h
 ·rename_i F hF;split at h
  ·rename_i v0 b blk o hFa;split at h
   ·rename_i ab hm;obtain ⟨hc,h⟩:=Zs h;simp only [Ac] at hc;simp only [Aq,Ad] at h;obtain ⟨st1,h1,rfl,rfl⟩:=h;obtain ⟨_,e2,e3,e4⟩:=Xi h1;obtain ⟨rfl,_⟩:=e4 hob;obtain ⟨hfn,eH⟩:=hS f _ hF;refine ⟨hfn,?_⟩;refine (eH args st.mem v0 b blk hFa (by rw [hm];rfl) ρ st.next cx.floor vals w (Al hc.2) dT dQ).mono fun e w' ⟨u,he,hv,hr,hev⟩=>⟨ρ,u,he,hv,?_,?_⟩
    ·rw [e2,e3];exact hr
    ·rw [e2,e3];exact hev
   ·cases h
  ·cases h
 ·rename_i ty0 F hF;split at h
  ·rename_i b sz n sz' r;split at h
   ·rename_i cells ty A hm;obtain ⟨hc,h⟩:=Zs h;simp only [Ac] at hc;obtain ⟨⟨c0,c1,c2⟩,c4,c5,c6⟩:=hc;have c0:=Ak c0;split at h
    ·rename_i n' g o hFa;simp only [Aq,Ad] at h;obtain ⟨st1,h1,rfl,rfl⟩:=h;obtain ⟨env,mem,next,orc,ob⟩:=st;simp only at h1 hm hcx dQ ⊢;obtain ⟨_,e2,e3,e4⟩:=Xi h1;obtain ⟨hob1,_⟩:=e4 hob;simp only [Ac] at hob1;obtain ⟨rfl,c3,hp,hp'⟩:=hob1;obtain ⟨hfn,eH⟩:=hS f _ hF;rw [←c0] at eH;obtain rfl:=Ak c1;refine ⟨hfn,?_⟩;refine (v7c eH hm ⟨Ak c2,Ak c3⟩ c4 (Al c5) (Al c6) hFa hp hp' dT dQ).mono fun e w' ⟨ρ',u,he,hv,hr,hev⟩=>⟨ρ',u,he,hv,?_,?_⟩
     ·rw [e2,e3];exact hr
     ·rw [e2,e3];exact hev
    ·cases h
   ·cases h
  ·cases h
 ·split at h
  ·rename_i fn hf;split at h
   ·rename_i body hb;split at h
    ·rename_i st2 hr;split at h
     ·rename_i vs hvs;simp only [Ae,Ad] at h;obtain ⟨rfl,rfl⟩:=h;refine ⟨⟨fn,hf,by rw [hb];rfl⟩,?_⟩;intro cs
      let b:Frame:={(default:Frame) with fn:=f,kind:=.normal}
      have fZ:Frame.enter P f vals .normal =b.at {tmps:=vals++Array.replicate (fn.ntmps - vals.size) undef,defers:=[]} [.code body]:=by simp [Frame.enter,Frame.at,hf,hb,b]
      obtain ⟨ρ',a',todo',w',eI,hd,dU,eT,hev⟩:=hR _ _ _ _ (by
       cases lift with
       | false=>exact hcx
       | true=>exact Ar _) hr hob ρ {tmps:=vals++Array.replicate (fn.ntmps - vals.size) undef,defers:=[]} w b cs rfl (y8a dT fn.ntmps) dQ
      obtain ⟨u,hu,gD⟩:=z3s dU eT hvs;rw [←fZ] at eI;refine ⟨.returned u,w',_,⟨ρ',u,rfl,hu,eT,?_⟩,eI,rfl,rfl,hd,rfl,fn,hf,gD⟩;refine hev.lower ?_;cases lift with
      | false=>exact Ar _
      | true=>exact hcx
     ·cases h
    ·cases h
   ·cases h
  ·cases h
theorem x5a {S:Specs} {R:Runner} (hN:y0s P) (hS:Zu P S) (hR:ROk P R) {lift:Bool} {o:Oper} {cx:Ctx} {st st':St} {v:AVal} (hcx:cx.floor≤st.next)
  (h:We P S R lift o.op cx st=some (v,st')) (hob:st'.ob=true) {ev:Operand→AVal} (hev: ∀x,x∈o.op.operands→ev x=st.eval x) {a:Act} (hr:z0i ρ ev a.eval o.op) {w:World} (dQ:Rel ρ st.mem st.next w):
  Does P o a w (x5k ρ cx.floor st st' v w):=by
 obtain ⟨dst,op,type,pos,after,guard⟩:=o;simp only at h hr hev
 replace hr:z0i ρ st.eval a.eval op:=fun x hx=>by rw [←hev x hx];exact hr x hx
 clear hev;unfold We at h;split at h
 ·rename_i t x;split at h
  ·rename_i v' b st0 hv;obtain ⟨l1,l2,l3,l4⟩:=z4g hv;simp only [Aq,Ad] at h;obtain ⟨st1,h1,rfl,rfl⟩:=h;obtain ⟨e1,e2,e3,e4⟩:=Xi h1;obtain ⟨rfl,hob0⟩:=e4 hob;obtain ⟨z,hz,dS⟩:=y3h dQ (l4 hob0).1 (hr x (by simp [Op.operands]));exact .inl ⟨ρ,z,w,by simp [execOp,dS],hz,by rw [e2,e3,l2,l3];exact dQ,by rw [e2,e3,l2,l3];exact Ev.refl _ _ _ _ _ dQ.dom⟩
  ·cases h
 ·rename_i t;simp only [Aq,Ad] at h;obtain ⟨z,hz,rfl,rfl⟩:=h;obtain ⟨_,zv,_,_,hzr,hzv⟩:=Wq (ρ:=ρ) hz;refine .inl ⟨_,.pointer (some ⟨w.heap.size,0,none⟩),_,?_,z6c dQ cx.floor z t zv.cells t (by rw [hzr.1];exact Ar _) hzr.2 _ _ fun ρ' hρ'=>.ptr _ 0 _ hρ'⟩;simp [execOp,Instr.alloc,hzv,newVar,newRow]
 ·rename_i t x;obtain ⟨hbx,h⟩:=Zs h;simp only [Ae,Ad] at h;obtain ⟨rfl,rfl⟩:=h;have hc:=(hr x (by simp [Op.operands])).cells hbx;refine .inl ⟨_,.pointer (some ⟨w.heap.size,0,none⟩),_,?_,z6c dQ cx.floor _ t (a.eval x).cells t (by rw [hc.1];exact Ar _) hc.2 _ _ fun ρ' hρ'=>.ptr _ 0 _ hρ'⟩;simp [execOp,Instr.box,newVar,newRow]
 ·rename_i t len parts;obtain ⟨ρ',u,w',dS,hp,_,_⟩:=y2o dQ cx.floor h (z3t parts.toList fun p hp=>hr p.2 (by simp only [Op.operands,List.mem_toArray,AQ];exact ⟨p,hp,rfl⟩));refine .inl ⟨ρ',u,w',?_,hp⟩;have:(parts.map fun (i,x)=>(i,a.eval x))=(parts.toList.map fun p=>(p.1,a.eval p.2)).toArray :=by apply Array.ext';simp
  simp [execOp,this,dS]
 ·rename_i t x y;split at h
  ·rename_i b sz r fo hb;simp only [Aq,Ad] at h;obtain ⟨st1,h,rfl,rfl⟩:=h;have hx:=hr x (by simp [Op.operands]);rw [hb] at hx;obtain ⟨w',dS,hp⟩:=x4w dQ h hob hx (hr y (by simp [Op.operands]));exact .inr (.inl ⟨ρ,w',by simp [execOp,dS],hp⟩)
  ·simp only [Aq,Ad] at h;obtain ⟨st1,h,rfl,rfl⟩:=h;obtain ⟨w',dS,hp,_,_⟩:=x7t dQ h (hr x (by simp [Op.operands])) (hr y (by simp [Op.operands]));exact .inr (.inl ⟨ρ,w',by simp [execOp,dS],hp⟩)
 ·rename_i t l c;rcases Jg h with ⟨_,h⟩ | ⟨_,h⟩
  ·rcases Jg h with ⟨_,h⟩ | ⟨_,h⟩
   ·obtain ⟨ρ',u,w',dS,hp,_,_⟩:=z0c (st:=st.dropO) dQ cx.floor h (hr l (by simp [Op.operands])) (hr c (by simp [Op.operands]));exact .inl ⟨ρ',u,w',by simp [execOp,dS],hp.val,hp.rel,hp.ev⟩
   ·obtain ⟨ρ',u,w',dS,hp⟩:=y2l (st:=st.dropO) dQ h hob (hr l (by simp [Op.operands])) (hr c (by simp [Op.operands]));exact .inl ⟨ρ',u,w',by simp [execOp,dS],hp.val,hp.rel,hp.ev⟩
  ·obtain ⟨ρ',u,w',dS,hp,_,_⟩:=z0c dQ cx.floor h (hr l (by simp [Op.operands])) (hr c (by simp [Op.operands]));exact .inl ⟨ρ',u,w',by simp [execOp,dS],hp⟩
 ·rename_i args argTypes;have dT:Vj (Yw ρ) (args.toList.map st.eval) (args.map a.eval).toList :=by rw [B6];exact Vj.maps _ _ _ fun x hx=>hr x (by simp [Op.operands,Call.operands];exact A8.1 hx)
  unfold z2i at h;rcases Jg h with ⟨_,h⟩ | ⟨_,h⟩
  ·obtain ⟨ρ',u,w',dS,hp⟩:=y9n (type:=type) dQ h hob dT;exact .inl ⟨ρ',u,w',by simp [execOp,resolve,invoke,builtin,dS],hp⟩
  split at h
  ·rename_i hxs;obtain ⟨ρ',u,w',dS,hp,_⟩:=z7g (type:=type) dQ h hob (hxs ▸ dT);exact .inl ⟨ρ',u,w',by simp [execOp,resolve,invoke,builtin,dS],hp⟩
  ·obtain ⟨ρ',u,w',dS,hp,_,_⟩:=z0o (type:=type) dQ cx.floor h dT;exact .inl ⟨ρ',u,w',by simp [execOp,resolve,invoke,builtin,dS],hp⟩
 ·rename_i args argTypes;have dT:Vj (Yw ρ) (args.toList.map st.eval) (args.map a.eval).toList :=by rw [B6];exact Vj.maps _ _ _ fun x hx=>hr x (by simp [Op.operands,Call.operands];exact A8.1 hx)
  unfold x2m at h;split at h
  ·rename_i b sz off len cap x xs hxs;obtain ⟨ρ',u,w',dS,hp⟩:=y3i (type:=type) (d:=.sla b sz off len cap) dQ h hob (hxs ▸ dT) fun u hu=>by
    cases hu with
    | sla _ _ _ _ _ l c hρ _ dR=>exact .inl ⟨l,c,hρ,dR,rfl⟩
    | slan=>exact .inr ⟨rfl,none,0,rfl⟩
   exact .inl ⟨ρ',u,w',by simp [execOp,resolve,invoke,builtin,dS],hp⟩
  ·rename_i b sz off len x xs hxs;obtain ⟨ρ',u,w',dS,hp⟩:=y3i (type:=type) (d:=.slv b sz off len) dQ h hob (hxs ▸ dT) fun u hu=>by
    cases hu with
    | slv _ _ _ _ l c hρ dR=>exact .inl ⟨l,c,hρ,dR,rfl⟩
    | slve _ _ _ blk base c=>exact .inr ⟨rfl,_,_,rfl⟩
    | slvn=>exact .inr ⟨rfl,none,0,rfl⟩
   exact .inl ⟨ρ',u,w',by simp [execOp,resolve,invoke,builtin,dS],hp⟩
  ·obtain ⟨ρ',u,w',dS,hp,_,_⟩:=w4i (type:=type) dQ cx.floor h dT;exact .inl ⟨ρ',u,w',by simp [execOp,resolve,invoke,builtin,dS],hp⟩
 ·rename_i args argTypes;have dT:Vj (Yw ρ) (args.toList.map st.eval) (args.map a.eval).toList :=by rw [B6];exact Vj.maps _ _ _ fun x hx=>hr x (by simp [Op.operands,Call.operands];exact A8.1 hx)
  obtain ⟨ρ',u,w',dS,hp,_,_⟩:=x7z (type:=type) dQ cx.floor h dT;exact .inl ⟨ρ',u,w',by simp [execOp,resolve,invoke,builtin,dS],hp⟩
 ·rename_i f args argTypes;split at h
  ·rename_i g caps hg;have hf:=hr f (by simp [Op.operands,Call.operands]);rw [hg] at hf;generalize hw:a.eval f=u at hf;cases hf with
   | fn _ _ cvs hl hh=>
    have dT:Vj (Yw ρ) (args.toList.map st.eval++caps) (args.map a.eval++cvs).toList :=by rw [Cn,B6];exact Vj.append (Vj.maps _ _ _ fun x hx=>hr x (by simp [Op.operands,Call.operands];exact .inr (A8.1 hx))) (Vj.of (by simpa using hl) fun i h1 h2=>by simpa using hh i h1 (by simpa using h2))
    obtain ⟨⟨fn,hfn,hb⟩,hc⟩:=y8v hS hR hcx h hob dT dQ;refine .inr (.inr ⟨g,args.map a.eval++cvs,?_,hc⟩);have:=z3b hN hfn hb (args.map a.eval++cvs) w;simp [execOp,resolve,Deferred.ofValue,hw,invoke,this]
  ·rename_i g first hg
   have hf:=hr f (by simp [Op.operands,Call.operands]);rw [hg] at hf;generalize hw:a.eval f=u at hf;cases hf with
   | fnb _ _ cvs hl hh=>
    have dT:Vj (Yw ρ) (first++args.toList.map st.eval) (cvs++args.map a.eval).toList :=by rw [Cn,B6];exact Vj.append (Vj.of (by simpa using hl) fun i h1 h2=>by simpa using hh i h1 (by simpa using h2)) (Vj.maps _ _ _ fun x hx=>hr x (by simp [Op.operands,Call.operands];exact .inr (A8.1 hx)))
    obtain ⟨⟨fn,hfn,hb⟩,hc⟩:=y8v hS hR hcx h hob dT dQ;refine .inr (.inr ⟨g,cvs++args.map a.eval,?_,hc⟩);have:=z3b hN hfn hb (cvs++args.map a.eval) w;simp [execOp,resolve,Deferred.ofValue,hw,invoke,this]
  ·cases h
 ·cases h
end
section
variable {P:Program} {ρ:Rho}
theorem Wg.congr {env env':T AVal} {n:Nat} {tmps:Array Value} (h:Wg ρ env n tmps) (he: ∀t,T.get .undef env' t=T.get .undef env t):Wg ρ env' n tmps:=
 ⟨h.size,fun i=>by rw [he];exact h.get i,fun i hi=>by rw [he];exact h.out i hi⟩
theorem Wg.eval {st:St} {n:Nat} {a:Act} (h:Wg ρ st.env n a.tmps) (x:Operand):Yw ρ (st.eval x) (a.eval x):=by
 cases x with
 | tmp t=>exact h.get t
 | const v=>exact v5x v
 | global g=>exact .undef _
 | func f=>exact .fn f [] #[] rfl fun i h1 _=>by simp at h1
theorem Wg.put {env env':T AVal} {n:Nat} {a:Act} (h:Wg ρ env n a.tmps) {dst:Option Tmp} {v:AVal} {u:Value} (hv:Yw ρ v u)
  (hp:(dst=none∧env'=env)∨ ∃d,dst=some d∧d<n∧env'=T.set .undef env d v):Wg ρ env' n (a.put dst u).tmps :=by
 rcases hp with ⟨rfl,rfl⟩ | ⟨d,rfl,hd,rfl⟩
 ·exact h
 ·have hsz:=h.size;refine ⟨by simp [Act.put,hsz],fun i=> ?_,fun i hi=> ?_⟩
  ·rw [T.get_set];by_cases hi:i=d
   ·subst hi;rw [AC rfl];have:i<a.tmps.size:=by rw [hsz];exact hd
    simpa [Act.put,this] using hv
   ·rw [Ay hi];have:=h.get i
    simpa [Act.put,Array.getElem?_setIfInBounds_ne (Ne.symm hi)] using this
  ·rw [T.get_set,Ay (Nat.ne_of_gt (Ba hd hi))];exact h.out i hi
theorem Act.put_defers' (a:Act) (dst:Option Tmp) (v:Value):(a.put dst v).defers =a.defers:=by cases dst <;> rfl
theorem v1r {ops:Array Oper} {o:Oper} {cx:Ctx} {st st':St} {e:Bool} (h:y0p ops o cx st=some (e,st')):st'.mem=st.mem∧st'.next=st.next∧(st'.ob=true→st.ob=true∧ ∀t,st'.tmp t=st.tmp t):=by
 unfold y0p at h;split at h
 ·simp only [Ae,Ad] at h;obtain ⟨_,rfl⟩:=h;exact ⟨rfl,rfl,fun h=>⟨h,fun _=>rfl⟩⟩
 ·split at h
  ·cases h
  ·rename_i d hd;split at h
   ·rename_i b hb;split at h;rename_i e1 st1 ht;split at h
    ·rename_i st2 hp;simp only [Ae,Ad] at h;obtain ⟨_,rfl⟩:=h;obtain ⟨t1,t2,t3,t4⟩:=y6c ht;obtain ⟨p1,p2,p3,p4⟩:=Wn hp;refine ⟨p1.trans t2,p2.trans t3,fun ho=> ?_⟩;rw [p3] at ho;obtain ⟨rfl,ho⟩:=t4 ho;refine ⟨ho,fun t=> ?_⟩;rcases p4 with ⟨e,_⟩ | ⟨d',e,_,he⟩
     ·cases e
     ·obtain rfl:=Af e;show T.get .undef st2.env t=T.get .undef st.env t;rw [he,t1,T.get_set];split
      ·rename_i h;subst h;exact hb.symm
      ·rfl
    ·cases h
   ·simp only [Ae,Ad] at h;obtain ⟨_,rfl⟩:=h;exact ⟨rfl,rfl,fun h=>⟨h,fun _=>rfl⟩⟩
   ·cases h
def Jk (ops:Array Oper) (o:Oper):Option Tmp:=o.guard.bind fun g=>(ops[g.1]?).bind (·.dst)
theorem w4d {ops:Array Oper} {o:Oper} {cx:Ctx} {st st':St} {e:Bool} (h:y0p ops o cx st=some (e,st')) (ho:st'.ob=true) {tmps:Array Value} (hsz:tmps.size=cx.n)
  (hr: ∀d,Jk ops o=some d→Yw ρ (st.tmp d) (tmps.getD d undef)):Region.wanted o (yielded ops tmps)=e:=by
 unfold y0p at h;unfold Region.wanted;split at h
 ·rename_i hg;simp only [Ae,Ad] at h;obtain ⟨rfl,_⟩:=h;rw [hg]
 ·rename_i j want hg;rw [hg];simp only;split at h
  ·cases h
  ·rename_i d hd;have hrd:=hr d (by simp [Jk,hg,hd]);split at h
   ·rename_i b hb;split at h;rename_i e1 st1 ht;split at h
    ·rename_i st2 hp;simp only [Ae,Ad] at h;obtain ⟨rfl,rfl⟩:=h;obtain ⟨_,_,_,t4⟩:=y6c ht;obtain ⟨_,_,p3,p4⟩:=Wn hp;rw [p3] at ho;obtain ⟨rfl,_⟩:=t4 ho;rcases p4 with ⟨e,_⟩ | ⟨d',e,hlt,_⟩
     ·cases e
     ·obtain rfl:=Af e;rw [hb] at hrd;have hlt':d<tmps.size:=by rw [hsz];exact hlt
      have dY:tmps.getD d undef=tmps[d]:=(by simp [hlt']);rw [dY] at hrd;have:yielded ops tmps j=some e1:=by unfold yielded;rw [hd];simp only [Option.bind_some,Bj hlt'];generalize tmps[d]=u at hrd;cases hrd;rfl
      rw [this];cases e1 <;> cases want <;> rfl
    ·cases h
   ·rename_i hb;simp only [Ae,Ad] at h;obtain ⟨rfl,rfl⟩:=h;rw [hb] at hrd;have:yielded ops tmps j=none:=by
     unfold yielded;rw [hd];simp only [Option.bind_some];by_cases hlt:d<tmps.size
     ·have dY:tmps.getD d undef=tmps[d]:=(by simp [hlt]);rw [dY] at hrd;rw [Bj hlt];generalize tmps[d]=u at hrd;cases hrd;rfl
     ·rw [Array.getElem?_eq_none (Nat.le_of_not_lt hlt)]
    rw [this];rfl
   ·cases h
theorem y0j {cx:Ctx} {t:Nat} {kd:IntKind} {n:Int} {st st':St} (ht:st.tmp t=.int kd n) (h:st.conc cx t kd n=some st'):st'.mem=st.mem∧st'.next=st.next∧(st'.ob=true→st.ob=true∧ ∀t,st'.tmp t=st.tmp t):=by
 obtain ⟨env,mem,next,orc,ob⟩:=st;cases orc with
 | nil=>obtain rfl:=Af h;exact ⟨rfl,rfl,fun h=>⟨h,fun _=>rfl⟩⟩
 | cons o r=>
  unfold St.conc at h;obtain ⟨_,h⟩:=Zs h;obtain rfl:=Af h;refine ⟨rfl,rfl,fun ho=> ?_⟩;simp only [Ac,As] at ho;refine ⟨ho.2,fun k=> ?_⟩;show T.get .undef (T.set .undef env t _) k=T.get .undef env k;rw [T.get_set];split
  ·rename_i e;subst e;rw [←ho.1];exact ht.symm
  ·rfl
theorem v1v {o:Oper} {cx:Ctx} {st st':St} (h:u5n o cx st=some st'):st'.mem=st.mem∧st'.next=st.next∧(st'.ob=true→st.ob=true∧ ∀t,st'.tmp t=st.tmp t):=by
 have same:some st=some st'→st'.mem=st.mem∧st'.next=st.next∧(st'.ob=true→st.ob=true∧ ∀t,st'.tmp t=st.tmp t):=fun e=>by obtain rfl:=Af e;exact ⟨rfl,rfl,fun h=>⟨h,fun _=>rfl⟩⟩
 unfold u5n at h;split at h
 ·split at h
  ·split at h
   ·rename_i ht;exact y0j ht h
   ·exact same h
  ·split at h
   ·rename_i ht;exact y0j ht h
   ·exact same h
  ·split at h
   ·rename_i ht;exact y0j ht h
   ·exact same h
  ·exact same h
 ·split at h
  ·split at h
   ·rename_i ht;exact y0j ht h
   ·exact same h
  ·exact same h
 ·exact same h
theorem Kt {ops:Array Oper} {o:Oper} {cx:Ctx} {st st':St} {e:Bool} (h:z0b ops o cx st=some (e,st')): ∃st1,y0p ops o cx st=some (e,st1)∧st'.mem=st1.mem∧st'.next=st1.next∧(st'.ob=true→st1.ob=true∧ ∀t,st'.tmp t=st1.tmp t)∧(Xk o.op=.alloc ∨e=false→st'=st1):=by
 unfold z0b at h;split at h
 ·rename_i st1 h1;split at h
  ·rename_i st2 h2;simp only [Ae,Ad] at h;obtain ⟨rfl,rfl⟩:=h;obtain ⟨c1,c2,c3⟩:=v1v h2;refine ⟨st1,h1,c1,c2,c3,fun hk=> ?_⟩;rcases hk with hk | hk
   ·unfold u5n at h2;split at h2
    ·rename_i ho;rw [ho] at hk;cases hk
    ·rename_i ho;rw [ho] at hk;cases hk
    ·exact (Af h2).symm
   ·cases hk
  ·cases h
 ·exact ⟨st',h,rfl,rfl,fun h=>⟨h,fun _=>rfl⟩,fun _=>rfl⟩
theorem Wu {ops:Array Oper} {o:Oper} {cx:Ctx} {st st':St} {e:Bool} (h:z0b ops o cx st=some (e,st')):st'.mem=st.mem∧st'.next=st.next∧(st'.ob=true→st.ob=true∧ ∀t,st'.tmp t=st.tmp t):=by obtain ⟨st1,h1,c1,c2,c3,_⟩:=Kt h;obtain ⟨w1,w2,w3⟩:=v1r h1;exact ⟨c1.trans w1,c2.trans w2,fun ho=>⟨(w3 (c3 ho).1).1,fun t=>((c3 ho).2 t).trans ((w3 (c3 ho).1).2 t)⟩⟩
theorem Ja {ops:Array Oper} {o:Oper} {cx:Ctx} {st st':St} {e:Bool} (h:z0b ops o cx st=some (e,st')) (ho:st'.ob=true) {tmps:Array Value} (hsz:tmps.size=cx.n)
  (hg: ∀d,Jk ops o=some d→Yw ρ (st.tmp d) (tmps.getD d undef)):Region.wanted o (yielded ops tmps)=e:=by
 obtain ⟨st1,h1,_,_,c3,_⟩:=Kt h;exact w4d h1 (c3 ho).1 hsz hg
structure j8o (P:Program) (cx:Ctx) (o:Oper) (st st':St) (v:AVal):Prop where
 ob:st.ob=true
 does: ∀(ρ:Rho) (a:Act) (w:World) (ev:Operand→AVal),(∀x,x∈o.op.operands→ev x=st.eval x)→z0i ρ ev a.eval o.op→Rel ρ st.mem st.next w→Does P o a w (x5k ρ cx.floor st st' v w)
 calm:(Xk o.op=.pure ∨Xk o.op=.read)→ ∀(ρ:Rho) (a:Act) (w:World) (ev:Operand→AVal) (mem:Mem) (next:Nat),(∀x,x∈o.op.operands→ev x=st.eval x)→z0i ρ ev a.eval o.op→Rel ρ mem next w→
  (∀t y b ab,o.op=.load t y→w1g o.op ev=some b→Yn st.mem b=some ab→Yn mem b=some ab)→ ∃u,(execOp a.eval o).run P w=.ok (.value u) w∧Yw ρ v u
theorem v6s {op:Op} {ev:Operand→AVal} {x:AVal×Bool} (h:Qa P op ev=some x):Xk op=.pure :=by
 cases op with
 | call c=>
  obtain ⟨callee,args,argTypes⟩:=c;cases callee with
  | builtin b=>cases b <;> first | rfl | (simp [Qa,y6a] at h)
  | value f=>simp [Qa] at h
  | invoke r m=>rfl
 | _=>first | rfl | (simp [Qa] at h;done)
theorem w1s {S:Specs} {R:Runner} (hN:y0s P) (hS:Zu P S) (hRI:w7j R) (hR:ROk P R) {lift:Bool} {o:Oper} {cx:Ctx} {st st':St} (hcx:cx.floor≤st.next) (h:z9p P S R lift o cx st=some st'):
  ∃v stm,stm.put cx o.dst v=some st'∧stm.env=st.env∧Xe cx.floor st stm∧((Xk o.op=.pure ∨Xk o.op=.read)→stm.mem=st.mem∧stm.next=st.next)∧
   (lift=true→Xk o.op=.call → ∀b,b<st.next→wrC S o.op st.eval≠some b→Yn stm.mem b=Yn st.mem b)∧
   (Xk o.op=.chain → ∀b,b<st.next→x5h o.op st.eval≠some b→Yn stm.mem b=Yn st.mem b)∧
   (Xk o.op=.alloc →v=.ptr st.next 0∧ ∃t z,o.op=.alloc t∧z0d P t=some z∧stm=y2k st z t)∧
   (st'.ob=true→j8o P cx o st stm v):=by
 unfold z9p at h;split at h
 ·rename_i v b hp;have hk:=v6s hp;split at h
  ·rename_i st1 h1;obtain ⟨e1,e2,e3,e4⟩:=Xi h1;refine ⟨v,st1,h,e1,Xe.same e2 e3 fun x=>(e4 x).2,fun _=>⟨e2,e3⟩,(fun _ hc=>by rw [hk] at hc;cases hc),(fun hc=>by rw [hk] at hc;cases hc),(fun hc=>by rw [hk] at hc;cases hc),fun ho=> ?_⟩;obtain ⟨_,_,p3,_⟩:=Wn h;rw [p3] at ho;obtain ⟨rfl,ho1⟩:=e4 ho;refine ⟨ho1,fun ρ a w ev hev hr dQ=> ?_,fun _ ρ a w ev mem next hev hr dQ hag=> ?_⟩
   ·have hr':z0i ρ st.eval a.eval o.op:=fun x hx=>by rw [←hev x hx];exact hr x hx
    obtain ⟨u,hu,dS⟩:=y8o hp rfl hr';exact .inl ⟨ρ,u,w,dS w,hu,by rw [e2,e3];exact dQ,by rw [e2,e3];exact Ev.refl _ _ _ _ _ dQ.dom⟩
   ·have hr':z0i ρ st.eval a.eval o.op:=fun x hx=>by rw [←hev x hx];exact hr x hx
    obtain ⟨u,hu,dS⟩:=y8o hp rfl hr';exact ⟨u,dS w,hu⟩
  ·cases h
 ·split at h
  ·rename_i v stm he;obtain ⟨gF,dU⟩:=y8s hRI he;refine ⟨v,stm,h,dU,gF,fun hk=> ?_,fun hl hk b hb hw=> ?_,fun hk b hb hn=>x7y hk hb hn he,fun hk=> ?_,fun ho=> ?_⟩
   ·obtain ⟨dst,op,type,pos,after,guard⟩:=o;simp only at hk he;cases op with
    | load t x=>
     simp only [We] at he;split at he
     ·rename_i hl;obtain ⟨l1,l2,l3,l4⟩:=z4g hl;simp only [Aq,Ad] at he;obtain ⟨_,h1,_,rfl⟩:=he;obtain ⟨_,e2,e3,_⟩:=Xi h1;exact ⟨e2.trans l2,e3.trans l3⟩
     ·cases he
    | call c=>
     obtain ⟨callee,args,argTypes⟩:=c;cases callee with
     | builtin b=>cases b <;> first | (simp [We] at he;done) | (simp [Xk] at hk;done)
     | value f=>simp [Xk] at hk
     | invoke r m=>simp [We] at he
    | _=>first | (simp [We] at he;done) | (simp [Xk] at hk;done)
   ·obtain ⟨dst,op,type,pos,after,guard⟩:=o;simp only at hk he;cases op with
    | call c=>
     obtain ⟨callee,args,argTypes⟩:=c;cases callee with
     | builtin b=>cases b <;> first | (simp [We] at he;done) | (simp [Xk] at hk;done)
     | value f=>
      simp only [We] at he;split at he
      ·rename_i g caps hf;exact (y0r hRI he).1.2 hl b hb (by simpa only [wrC,hf] using hw)
      ·rename_i g first hf
       exact (y0r hRI he).1.2 hl b hb (by simpa only [wrC,hf] using hw)
      ·cases he
     | invoke r m=>simp [We] at he
    | _=>first | (simp [We] at he;done) | (simp [Xk] at hk;done)
   ·obtain ⟨dst,op,type,pos,after,guard⟩:=o;simp only at hk he;cases op with
    | alloc t=>simp only [We,Aq,Ad] at he;obtain ⟨z,hz,rfl,rfl⟩:=he;exact ⟨rfl,t,z,rfl,hz,rfl⟩
    | call c=>
     obtain ⟨callee,args,argTypes⟩:=c;cases callee with
     | builtin b=>cases b <;> first | (simp [We] at he;done) | (simp [Xk] at hk;done)
     | value f=>simp [Xk] at hk
     | invoke r m=>simp [We] at he
    | _=>first | (simp [We] at he;done) | (simp [Xk] at hk;done)
   ·obtain ⟨_,_,p3,_⟩:=Wn h;rw [p3] at ho;refine ⟨gF.ob ho,fun ρ a w ev hev hr dQ=>x5a hN hS hR hcx he ho hev hr dQ,fun hk ρ a w ev mem next hev hr dQ hag=> ?_⟩;obtain ⟨dst,op,type,pos,after,guard⟩:=o;simp only at hk he hev hr hag;cases op with
    | load t x=>
     simp only [We] at he;split at he
     ·rename_i v' bb st0 hv;obtain ⟨l1,l2,l3,l4⟩:=z4g hv;simp only [Aq,Ad] at he;obtain ⟨st1,h1,rfl,rfl⟩:=he;obtain ⟨_,_,_,e4⟩:=Xi h1;obtain ⟨rfl,hob0⟩:=e4 ho;have hv:=(l4 hob0).1;have hx:x∈(Op.load t x).operands :=(by simp [Op.operands]);have hl:y8r P mem t (ev x)=some (v',true):=by
       rw [hev x hx];have hag': ∀b ab,w1g (.load t x) st.eval=some b→Yn st.mem b=some ab→Yn mem b=some ab:=fun b ab q1 q2=>hag t x b ab rfl (by simp only [w1g,hev x hx] at q1 ⊢;exact q1) q2;unfold y8r at hv ⊢;split at hv
       ·rename_i b sz r fo hb;simp only [w1g,hb] at hag';split at hv
        ·rename_i ab hm;rw [hag' b ab rfl hm];exact hv
        ·cases hv
       ·rename_i y hy;unfold w4g at hv ⊢;split at hv
        ·rename_i b off hb;simp only [w1g,hb] at hag';split at hv
         ·rename_i ab hm;rw [hag' b ab rfl hm];exact hv
         ·cases hv
        ·exact hv
        ·cases hv
      obtain ⟨z,hz,dS⟩:=y3h dQ hl (hr x hx);exact ⟨z,by simp [execOp,dS],hz⟩
     ·cases he
    | call c=>
     obtain ⟨callee,args,argTypes⟩:=c;cases callee with
     | builtin b=>cases b <;> first | (simp [We] at he;done) | (simp [Xk] at hk;done)
     | value f=>simp [Xk] at hk
     | invoke r m=>simp [We] at he
    | _=>first | (simp [We] at he;done) | (simp [Xk] at hk;done)
  ·cases h
theorem z7t {S:Specs} {R:Runner} {ops:Array Oper} {cx:Ctx} {x:Bool×Oper} {l:List (Bool×Oper)} {st:St}:x1k P S R ops cx (x::l) st=(y9g P S R ops cx x st).bind (x1k P S R ops cx l):=by
 show (match z0b ops x.2 cx st with
  | none=>none
  | some (true,st)=>match z9p P S R x.1 x.2 cx st with
   | some st=>x1k P S R ops cx l st
   | none=>none
  | some (false,st)=>match st.put cx x.2.dst (.tup []) with
   | some st=>x1k P S R ops cx l st
   | none=>none)=_
 unfold y9g;cases h:z0b ops x.2 cx st with
 | none=>rfl
 | some y=>
  obtain ⟨e,st1⟩:=y;cases e with
  | true=>simp only [];cases z9p P S R x.1 x.2 cx st1 <;> rfl
  | false=>simp only [];cases st1.put cx x.2.dst (.tup []) <;> rfl
theorem Does.wp2 {o:Oper} {a:Act} {w:World} {K:Rho→Value→World→Prop} {next:Act→World→Prop} {Q:Exit→Act→World→Prop} (h:Does P o a w K)
  (hk: ∀ρ' u w',K ρ' u w'→((execOp a.eval o).run P w=.ok (.value u) w'∨ ∀u w',(execOp a.eval o).run P w≠ .ok (.value u) w')→next (a.put o.dst u) w'):o.wp P a w next Q:=by
 unfold Oper.wp;rcases h with ⟨ρ',u,w',e,k⟩ | ⟨ρ',w',e,k⟩ | ⟨f,args,e,hc⟩
 ·have:=hk _ _ _ k (.inl e);rw [e];exact this
 ·have:=hk _ _ _ k (.inr fun u w' e2=>by rw [e] at e2;injection e2 with e3;cases e3);rw [e];exact this
 ·rw [e];exact hc.mono fun e' w' ⟨ρ',u,he,k⟩=>by subst he;exact hk _ _ _ k (.inr fun u w' e2=>by rw [e] at e2;injection e2 with e3;cases e3)
theorem w8c (m:Mem) (sz:Nat) (zero:List AVal) (ut:TypeDesc) (b o n:Nat) (c:v2a):x2x m sz zero ut (.sl b o n c)=none:=by cases ut <;> rfl
theorem v9b {cx:Ctx} {st:St} {ts:List TypeId} {s:AVal} {b o n:Nat} {c:v2a} {r:List AVal}:z0p P cx st ts (s::.sl b o n c::r)=none:=by
 unfold z0p;split
 ·rename_i t u tr s' x r' e;cases e;split
  ·split
   ·simp only [w8c];split
    ·rename_i e;cases e
    ·rfl
   ·rfl
  ·rfl
 ·rfl
theorem v0l {S:Specs} {R:Runner} {lift:Bool} {o:Oper} {cx:Ctx} {st st':St} (h:z9p P S R lift o cx st=some st') (hob:st'.ob=true) {b:Nat} (hk:w3y o.op st.eval st.mem=some b) {a:Act} {w:World} (hr:z0i ρ st.eval a.eval o.op) (dQ:Rel ρ st.mem st.next w):
  ∃u w',(execOp a.eval o).run P w=.ok (.value u) w'∧ ∀ab l,Yn st.mem b=some ab→ρ b=some l→Jz ρ w' ab l:=by
 obtain ⟨dst,op,type,pos,after,guard⟩:=o;simp only at hk hr;unfold w3y at hk;split at hk
 ·rename_i args argTypes;have dT:Vj (Yw ρ) (args.toList.map st.eval) (args.map a.eval).toList :=by rw [B6];exact Vj.maps _ _ _ fun x hx=>hr x (by simp [Op.operands,Call.operands];exact A8.1 hx)
  have h:(match z2i P cx st argTypes.toList (args.toList.map st.eval) with
   | some (v,st2)=>st2.put cx dst v
   | none=>none)=some st':=h
  split at h
  ·rename_i v st2 h2;have ho2:st2.ob=true:=by obtain ⟨_,_,p3,_⟩:=Wn h;rw [←p3];exact hob
   unfold z2i at h2;split at hk
   ·rename_i b' sz off len z b2 o2 n2 c2 r he;obtain rfl:=Af hk;rw [he] at h2 dT;rcases Jg h2 with ⟨_,h2⟩ | ⟨_,h2⟩
    ·rw [v9b] at h2;cases h2
    ·obtain ⟨ρ',u,w',dS,_,hq⟩:=z7g (type:=type) dQ h2 ho2 dT;exact ⟨u,w',by simp [execOp,resolve,invoke,builtin,dS],fun ab l k1 k2=>hq _ _ _ _ _ _ _ _ rfl k1 k2⟩
   ·rename_i b' off len z b2 o2 n2 c2 r he;split at hk
    ·rename_i blk hm;obtain ⟨hc,hk⟩:=Zs hk;obtain rfl:=Af hk;simp only [Ac] at hc;rw [he] at h2 dT;rcases Jg h2 with ⟨_,h2⟩ | ⟨_,h2⟩
     ·rw [v9b] at h2;cases h2
     ·obtain ⟨ρ',u,w',dS,_,_,hq⟩:=z0o (type:=type) dQ cx.floor h2 dT;refine ⟨u,w',by simp [execOp,resolve,invoke,builtin,dS],fun ab l k1 k2=> ?_⟩;rw [hm] at k1;obtain rfl:=Af k1;exact hq.1 _ _ _ _ _ _ _ _ _ _ _ rfl (Al hc.2) hm (Ak hc.1) k2
    ·cases hk
   ·cases hk
  ·cases h
 ·cases hk
structure Step1 (S:Specs) (P:Program) (ops:Array Oper) (cx:Ctx) (x:Bool×Oper) (st st':St):Prop where
 inv:Xe cx.floor st st'
 stay:(Xk x.2.op=.pure ∨Xk x.2.op=.read)→st'.mem=st.mem∧st'.next=st.next
 lift:st'.ob=true→x.1=true→Xk x.2.op=.call → ∀b,b<st.next→wrC S x.2.op st.eval≠some b→Yn st'.mem b=Yn st.mem b
 foot:st'.ob=true→Xk x.2.op=.chain → ∀b,b<st.next→x5h x.2.op st.eval≠some b→Yn st'.mem b=Yn st.mem b
 alloc:Xk x.2.op=.alloc →x.2.guard=none→ ∃t z,x.2.op=.alloc t∧z0d P t=some z∧st'.mem=(y2k st z t).mem ∧st'.next=(y2k st z t).next ∧ ∀d,x.2.dst=some d→st'.tmp d=.ptr st.next 0
 slot: ∀d,x.2.dst=some d→d<cx.n
 other:st'.ob=true→ ∀t,x.2.dst≠some t→st'.tmp t=st.tmp t
 does:st'.ob=true→ ∀(ρ:Rho) (a:Act) (w:World) (ev:Operand→AVal),a.tmps.size=cx.n→(∀y,y∈x.2.op.operands→ev y=st.eval y)→(∀d,Jk ops x.2=some d→Yw ρ (st.tmp d) (a.tmps.getD d undef))→z0i ρ ev a.eval x.2.op→Rel ρ st.mem st.next w→
  ∀(K:Act→World→Prop) (Q:Exit→Act→World→Prop),(∀ρ' u w',(∀d,x.2.dst=some d→Yw ρ' (st'.tmp d) u)→Rel ρ' st'.mem st'.next w'→Ev ρ ρ' cx.floor st.mem st.next st'.mem st'.next w w'→(∀b ab l,w3y x.2.op st.eval st.mem=some b→Yn st.mem b=some ab→ρ b=some l→Jz ρ w' ab l)→K (a.put x.2.dst u) w')→
   if Region.wanted x.2 (yielded ops a.tmps) then x.2.wp P a w K Q else K (a.put x.2.dst undef) w
 calm:st'.ob=true→(Xk x.2.op=.pure ∨Xk x.2.op=.read)→ ∀(ρ:Rho) (a:Act) (w:World) (ev:Operand→AVal) (mem:Mem) (next:Nat),a.tmps.size=cx.n→(∀y,y∈x.2.op.operands→ev y=st.eval y)→(∀d,Jk ops x.2=some d→Yw ρ (st.tmp d) (a.tmps.getD d undef))→z0i ρ ev a.eval x.2.op→Rel ρ mem next w→
  (∀t y b ab,x.2.op=.load t y→w1g x.2.op ev=some b→Yn st.mem b=some ab→Yn mem b=some ab)→ ∀(K:Act→World→Prop) (Q:Exit→Act→World→Prop),(∀u,(∀d,x.2.dst=some d→Yw ρ (st'.tmp d) u)→K (a.put x.2.dst u) w)→
   if Region.wanted x.2 (yielded ops a.tmps) then x.2.wp P a w K Q else K (a.put x.2.dst undef) w
theorem y9z {S:Specs} {R:Runner} (hN:y0s P) (hS:Zu P S) (hRI:w7j R) (hR:ROk P R) {ops:Array Oper} {x:Bool×Oper} {cx:Ctx} {st st':St} (hcx:cx.floor≤st.next) (h:y9g P S R ops cx x st=some st'):
  Step1 S P ops cx x st st':=by
 unfold y9g at h;split at h
 ·cases h
 ·rename_i st1 hw;obtain ⟨w1,w2,w3⟩:=Wu hw;obtain ⟨v,stm,hp,dU,gF,hstay,hlift,hfoot,halloc,hdo⟩:=w1s hN hS hRI hR (by rw [w2];exact hcx) h;obtain ⟨p1,p2,p3,p4⟩:=Wn hp;have fO: ∀d,x.2.dst=some d→st'.tmp d=v:=fun d hd=>by
   rcases p4 with ⟨e,_⟩ | ⟨d',e,_,he⟩
   ·rw [hd] at e;cases e
   ·rw [hd] at e;obtain rfl:=Af e;show T.get .undef st'.env d=v;rw [he,T.get_set,AC rfl]
  have hi1:Xe cx.floor st st1:=Xe.same w1 w2 fun ho=>(w3 ho).1;have hi2:Xe cx.floor stm st':=Xe.same p1 p2 fun ho=>by rw [←p3];exact ho
  refine ⟨(hi1.trans gF).trans hi2,fun hk=> ?_,fun ho hl hk b hb hn=> ?_,fun ho hk b hb hn=> ?_,fun hk hg=> ?_,fun d hd=> ?_,fun ho t ht=> ?_,fun ho ρ a w ev hsz hev hgr hr dQ K Q hK=> ?_,fun ho hk ρ a w ev mem next hsz hev hgr hr dQ hag K Q hK=> ?_⟩
  ·obtain ⟨s1,s2⟩:=hstay hk;exact ⟨p1.trans (s1.trans w1),p2.trans (s2.trans w2)⟩
  ·have ho1:st1.ob=true:=gF.ob (by rw [←p3];exact ho);have eB:st1.eval=st.eval:=by
    funext y
    cases y with
    | tmp t=>exact (w3 ho1).2 t
    | _=>rfl
   rw [p1,hlift hl hk b (by rw [w2];exact hb) (by rw [eB];exact hn),w1]
  ·have ho1:st1.ob=true:=gF.ob (by rw [←p3];exact ho);have eB:st1.eval=st.eval:=by
    funext y
    cases y with
    | tmp t=>exact (w3 ho1).2 t
    | _=>rfl
   rw [p1,hfoot hk b (by rw [w2];exact hb) (by rw [eB];exact hn),w1]
  ·obtain ⟨e1,t,z,e2,e3,e4⟩:=halloc hk;have hst:st1=st:=by obtain ⟨st0,hw0,_,_,_,hw1⟩:=Kt hw;rw [hw1 (.inl hk)];unfold y0p at hw0;rw [hg] at hw0;simp only [Ae,Ad] at hw0;exact hw0.2.symm
   subst hst;exact ⟨t,z,e2,e3,by rw [p1,e4],by rw [p2,e4],fun d hd=>by rw [fO d hd,e1]⟩
  ·rcases p4 with ⟨e,_⟩ | ⟨d',e,hlt,_⟩
   ·rw [hd] at e;cases e
   ·rw [hd] at e;obtain rfl:=Af e;exact hlt
  ·have ho1:st1.ob=true:=gF.ob (by rw [←p3];exact ho);rw [←(w3 ho1).2 t];show T.get .undef st'.env t=T.get .undef st1.env t;rcases p4 with ⟨_,he⟩ | ⟨d,e,_,he⟩
   ·rw [he,dU]
   ·rw [he,dU,T.get_set,Ay (by intro htd;subst htd;exact ht e)]
  ·have ho1:st1.ob=true:=gF.ob (by rw [←p3];exact ho);have eB:=(w3 ho1).2;have fP: ∀y,st1.eval y=st.eval y:=fun y=>by cases y <;> first | rfl | exact eB _
   rw [Ja hw ho1 hsz hgr,AC rfl];refine ((hdo ho).does ρ a w ev (fun y hy=>by rw [fP y];exact hev y hy) hr (by rw [w1,w2];exact dQ)).wp2 fun ρ' u w' hpost dS=> ?_;have he:=hpost.ev;rw [w1,w2] at he;refine hK ρ' u w' (fun d hd=>by rw [fO d hd];exact hpost.val) (by rw [p1,p2];exact hpost.rel) (by rw [p1,p2];exact he) fun b ab l k1 k2 k3=> ?_;have hr':z0i ρ st1.eval a.eval x.2.op:=fun y hy=>by rw [fP y,←hev y hy];exact hr y hy
   have e1:st1.eval=st.eval:=funext fP;obtain ⟨u0,w0,r1,r2⟩:=v0l h ho (by rw [e1,w1];exact k1) hr' (by rw [w1,w2];exact dQ);rcases dS with dS | dS
   ·rw [r1] at dS;have:w0=w':=(by injection dS);subst this;exact r2 ab l (by rw [w1];exact k2) k3
   ·exact absurd r1 (dS _ _)
  ·have ho1:st1.ob=true:=gF.ob (by rw [←p3];exact ho);have eB:=(w3 ho1).2;have fP: ∀y,st1.eval y=st.eval y:=fun y=>by cases y <;> first | rfl | exact eB _
   rw [Ja hw ho1 hsz hgr,AC rfl];obtain ⟨u,dS,hu⟩:=(hdo ho).calm hk ρ a w ev mem next (fun y hy=>by rw [fP y];exact hev y hy) hr dQ (fun t y b ab q1 q2 q3=>hag t y b ab q1 q2 (by rw [←w1];exact q3))
   unfold Oper.wp;rw [dS];exact hK u fun d hd=>by rw [fO d hd];exact hu
 ·rename_i st1 hw;obtain ⟨w1,w2,w3⟩:=Wu hw;obtain ⟨p1,p2,p3,p4⟩:=Wn h;have fO: ∀d,x.2.dst=some d→st'.tmp d=.tup []:=fun d hd=>by
   rcases p4 with ⟨e,_⟩ | ⟨d',e,_,he⟩
   ·rw [hd] at e;cases e
   ·rw [hd] at e;obtain rfl:=Af e;show T.get .undef st'.env d=.tup [];rw [he,T.get_set,AC rfl]
  refine ⟨Xe.same (p1.trans w1) (p2.trans w2) fun ho=>(w3 (by rw [←p3];exact ho)).1,fun _=>⟨p1.trans w1,p2.trans w2⟩,fun _ _ _ b _ _=>by rw [p1,w1],fun _ _ b _ _=>by rw [p1,w1],fun hk hg=> ?_,fun d hd=> ?_,fun ho t ht=> ?_,fun ho ρ a w ev hsz hev hgr hr dQ K Q hK=> ?_,fun ho hk ρ a w ev mem next hsz hev hgr hr dQ hag K Q hK=> ?_⟩
  ·obtain ⟨st0,hw0,_⟩:=Kt hw;unfold y0p at hw0;rw [hg] at hw0;simp at hw0
  ·rcases p4 with ⟨e,_⟩ | ⟨d',e,hlt,_⟩
   ·rw [hd] at e;cases e
   ·rw [hd] at e;obtain rfl:=Af e;exact hlt
  ·rw [←(w3 (by rw [←p3];exact ho)).2 t];show T.get .undef st'.env t=T.get .undef st1.env t;rcases p4 with ⟨_,he⟩ | ⟨d,e,_,he⟩
   ·rw [he]
   ·rw [he,T.get_set,Ay (by intro htd;subst htd;exact ht e)]
  ·have ho1:st1.ob=true:=by rw [←p3];exact ho
   rw [Ja hw ho1 hsz hgr,Ay (by simp)];refine hK ρ undef w (fun d hd=>by rw [fO d hd];exact .tup [] #[] rfl fun i h1 _=>by simp at h1) ?_ ?_ fun b ab l _ k2 k3=>dQ.blk b l ab k3 k2
   ·rw [p1,p2,w1,w2];exact dQ
   ·rw [p1,p2,w1,w2];exact Ev.refl _ _ _ _ _ dQ.dom
  ·have ho1:st1.ob=true:=by rw [←p3];exact ho
   rw [Ja hw ho1 hsz hgr,Ay (by simp)];exact hK undef fun d hd=>by rw [fO d hd];exact .tup [] #[] rfl fun i h1 _=>by simp at h1
def Fin (D:List Deferred) (ρ:Rho) (cx:Ctx) (st st':St) (w:World):Exit→Act→World→Prop:=fun e a' w'=>
 e=.normal ∧a'.defers=D∧ ∃ρ',Wg ρ' st'.env cx.n a'.tmps∧Rel ρ' st'.mem st'.next w'∧Ev ρ ρ' cx.floor st.mem st.next st'.mem st'.next w w'
def u2g (ρ:Rho) (k:Nat) (o:Obj):Rho:=⟨ρ.f,fun j=>if j=k then some o else ρ.fz j,ρ.lp⟩
theorem x3m {k:Nat} {o:Obj} (h:ρ.fz k=none):ρ.le (u2g ρ k o):=
 ⟨fun _ _ e=>e,fun j o' e=>by
  show (if j=k then some o else ρ.fz j)=some o';by_cases hj:j=k
  ·subst hj;rw [h] at e;cases e
  ·rw [Ay hj];exact e,fun _ _ e=>e⟩
theorem Rel.froze {mem:Mem} {next:Nat} {w:World} (h:Rel ρ mem next w) (vs:Array Value) (el:TypeId):
  Rel (u2g ρ w.heap.size (.cells vs el)) mem next {w with heap:=w.heap.push (.cells vs el)}:=by
 have hle:=x3m (o:=.cells vs el) (h.hold w.heap.size (Ar _));have push: ∀k,k<w.heap.size→(w.heap.push (.cells vs el))[k]? =w.heap[k]? :=fun k hk=>by simp [Bp,A7 hk]
 refine ⟨h.dom,h.inj,fun b l ab e hm=> ?_,fun k o e=> ?_,fun b l e hs=> ?_,fun b l e=> ?_,h.bd,h.ldom⟩
 ·exact (h.blk b l ab e hm).world hle (push _ (h.real b l e))
 ·have e:(if k=w.heap.size then some (.cells vs el) else ρ.fz k)=some o:=e;show (w.heap.push (.cells vs el))[k]? =some o;by_cases hk:k=w.heap.size
  ·rw [AC hk] at e;rw [hk,←e];simp
  ·rw [Ay hk] at e;have:=h.old k o e;rw [push k (AJ.1 this).1];exact this
 ·have:=h.real b l e;show (if l.blk=w.heap.size then _ else ρ.fz l.blk)=none;rw [Ay (by omega)];exact h.sep b l e hs
 ·have:=h.real b l e;show l.blk<(w.heap.push (.cells vs el)).size;rw [Array.size_push];omega
theorem Ev.froze {mem:Mem} {next:Nat} {w:World} (h:Rel ρ mem next w) (floor:Nat) (m:Mem) (vs:Array Value) (el:TypeId):
  Ev ρ (u2g ρ w.heap.size (.cells vs el)) floor m next m next w {w with heap:=w.heap.push (.cells vs el)}:=by
 have hle:=x3m (o:=.cells vs el) (h.hold w.heap.size (Ar _));refine ⟨hle,fun _ _=>rfl,Ar _,fun _ _ _ _ _ q=>q,fun k o q _=> ?_,fun b l hb hl=> ?_,?_,rfl,rfl,rfl,fun k hk=> ?_⟩
 ·have hk:k<w.heap.size:=(AJ.1 q).1;show (w.heap.push (.cells vs el))[k]? =some o;simp only [Bp,A7 hk,Cr];exact q
 ·have:=h.dom b l hl;omega
 ·show w.heap.size≤(w.heap.push (.cells vs el)).size;rw [Array.size_push];omega
 ·show (if k=w.heap.size then _ else ρ.fz k)=ρ.fz k;rw [Ay (by omega)]
theorem w4h {w:World} {t:TypeId} {len:Nat} {ps:List (Nat×AVal)} {qs:List (Nat×Value)} {v:AVal} (hb:j8m P t len ps=some v) (hp:z2j ρ ps qs) (hf:ρ.fz w.heap.size=none):
  ∃u vs el,(Instr.buildSlice t len qs.toArray).run P w=.ok u {w with heap:=w.heap.push (.cells vs el)}∧Yw (u2g ρ w.heap.size (.cells vs el)) v u:=by
 unfold j8m at hb;split at hb
 ·rename_i e hu;split at hb
  ·rename_i i zero hi hz;obtain ⟨hc,hb⟩:=Zs hb;simp only [Ac] at hc;obtain ⟨⟨hl1,hs1⟩,hle,hzl⟩:=hc;have hl1:=Al hl1;have hs1:=Al hs1;have hle:=Al hle;have hzl:=Ak hzl;split at hb
   ·rename_i cells dV;obtain ⟨hc,hb⟩:=Zs hb;simp only [Ac] at hc;obtain ⟨hn,hpf⟩:=hc;have hn:=Ak hn;obtain rfl:=Af hb;obtain ⟨_,z,_,_,hzr,hzv⟩:=Wq (ρ:=ρ) hz;have fD:=y1m hzr len (len*i.size) (by rw [hzl]);obtain ⟨arr,h1,h2⟩:=Qb dV fD hp;have hsz:arr.size=len*i.size:=(by rw [←h2.1,hn]);have hgt': ¬2 ^ 24<len*i.size:=(by omega);have hpos:0<len*i.size:=Nat.mul_pos (by omega) (by omega);have h0: ¬len*i.size=0:=(by omega);refine ⟨.slice (some ⟨w.heap.size,0,none⟩) len len,arr,e,?_,?_⟩
    ·have hsz0: ¬i.size=0:=(by omega);simp [Instr.buildSlice,run_underlying hu,Zo hi,h0,hsz0,hzv,h1,newRow,hgt']
    ·have hin: ∀a b,a<len→b<i.size→a*i.size+b<cells.length:=fun a b ha hb=>by have:(a+1)*i.size≤len*i.size:=AH _ ha;rw [AR,BI] at this;omega
     have dY: ∀a,a<len→((cells.drop (a*i.size)).take i.size).length =i.size:=fun a ha=>by have:(a+1)*i.size≤len*i.size:=AH _ ha;rw [AR,BI] at this;rw [AZ,BM];omega
     refine .dat len _ w.heap.size 0 i.size len (fun a b=>arr.getD (a*i.size+b) undef) (Ar _) (fun a ha=>dY a ha) (fun a b ha hb=> ?_) (fun a b ha hb=> ?_)
     ·have hb':b<i.size:=by rw [dY a ha] at hb;exact hb
      have h3:=hin a b ha hb';have e1:((cells.drop (a*i.size)).take i.size)[b]=cells[a*i.size+b]:=by rw [Bf,List.getElem_drop]
      rw [e1];have h4:a*i.size+b<arr.size:=by rw [←h2.1];exact h3
      have e2:arr.getD (a*i.size+b) undef=arr[a*i.size+b]:=(by simp [h4]);rw [e2];have h5:=Kn 6 _ _ (At.1 hpf _ (AM h3)) (h2.2 _ h3 h4);exact h5.mono (x3m (o:=.cells arr e) hf).bare
     ·have h3:=hin a b ha hb;have h4:a*i.size+b<arr.size:=by rw [←h2.1];exact h3
      refine ⟨arr,e,(0,0),?_,?_⟩
      ·show (if w.heap.size=w.heap.size then some (Obj.cells arr e) else _)=_;rw [AC rfl]
      ·simp [h4]
   ·cases hb
  ·cases hb
 ·cases hb
structure u5o (S:Specs) (z:Nat) (P:Program) (ops:Array Oper) (cx:Ctx) (x:Bool×Oper) (st st':St):Prop where
 inv:Xe cx.floor st st'
 stay:(Xj z x.2.op=.pure ∨Xj z x.2.op=.read ∨Xj z x.2.op=.lit)→st'.mem=st.mem∧st'.next=st.next
 lift:st'.ob=true→x.1=true→Xj z x.2.op=.call → ∀b,b<st.next→wrC S x.2.op st.eval≠some b→Yn st'.mem b=Yn st.mem b
 foot:st'.ob=true→Xj z x.2.op=.chain → ∀b,b<st.next→x5h x.2.op st.eval≠some b→Yn st'.mem b=Yn st.mem b
 fresh:st'.ob=true→(Xj z x.2.op=.alloc ∨Xj z x.2.op=.birth)→x.2.guard=none→ ∃cells ty,st'.mem=Wz st.mem st.next (some ⟨cells,ty,none⟩)∧st'.next=st.next+1∧
  ∀(ρ:Rho) (a:Act) (w:World) (ev:Operand→AVal),(∀y,y∈x.2.op.operands→ev y=st.eval y)→z0i ρ ev a.eval x.2.op→
   ∃u vs el,Ue ρ cells vs∧(execOp a.eval x.2).run P w=.ok (.value u) {w with heap:=w.heap.push (.cells vs el)}∧ ∀ρ':Rho,ρ' st.next=some ⟨w.heap.size,0,cells.length,vs.size⟩→ ∀d,x.2.dst=some d→Yw ρ' (st'.tmp d) u
 slot: ∀d,x.2.dst=some d→d<cx.n
 other:st'.ob=true→ ∀t,x.2.dst≠some t→st'.tmp t=st.tmp t
 does:st'.ob=true→(Xj z x.2.op=.chain ∨Xj z x.2.op=.call)→ ∀(ρ:Rho) (a:Act) (w:World) (ev:Operand→AVal),a.tmps.size=cx.n→(∀y,y∈x.2.op.operands→ev y=st.eval y)→(∀d,Jk ops x.2=some d→Yw ρ (st.tmp d) (a.tmps.getD d undef))→z0i ρ ev a.eval x.2.op→Rel ρ st.mem st.next w→
  ∀(K:Act→World→Prop) (Q:Exit→Act→World→Prop),(∀ρ' u w',(∀d,x.2.dst=some d→Yw ρ' (st'.tmp d) u)→Rel ρ' st'.mem st'.next w'→Ev ρ ρ' cx.floor st.mem st.next st'.mem st'.next w w'→(∀b ab l,w3y x.2.op st.eval st.mem=some b→Yn st.mem b=some ab→ρ b=some l→Jz ρ w' ab l)→K (a.put x.2.dst u) w')→
   if Region.wanted x.2 (yielded ops a.tmps) then x.2.wp P a w K Q else K (a.put x.2.dst undef) w
 calm:st'.ob=true→(Xj z x.2.op=.pure ∨Xj z x.2.op=.read)→ ∀(ρ:Rho) (a:Act) (w:World) (ev:Operand→AVal) (mem:Mem) (next:Nat),a.tmps.size=cx.n→(∀y,y∈x.2.op.operands→ev y=st.eval y)→(∀d,Jk ops x.2=some d→Yw ρ (st.tmp d) (a.tmps.getD d undef))→z0i ρ ev a.eval x.2.op→Rel ρ mem next w→
  (∀t y b ab,x.2.op=.load t y→w1g x.2.op ev=some b→Yn st.mem b=some ab→Yn mem b=some ab)→ ∀(K:Act→World→Prop) (Q:Exit→Act→World→Prop),(∀u,(∀d,x.2.dst=some d→Yw ρ (st'.tmp d) u)→K (a.put x.2.dst u) w)→
   if Region.wanted x.2 (yielded ops a.tmps) then x.2.wp P a w K Q else K (a.put x.2.dst undef) w
 lit:st'.ob=true→Xj z x.2.op=.lit → ∀(ρ:Rho) (a:Act) (w:World) (ev:Operand→AVal) (mem:Mem) (next:Nat),a.tmps.size=cx.n→(∀y,y∈x.2.op.operands→ev y=st.eval y)→(∀d,Jk ops x.2=some d→Yw ρ (st.tmp d) (a.tmps.getD d undef))→z0i ρ ev a.eval x.2.op→Rel ρ mem next w→
  ∀(K:Act→World→Prop) (Q:Exit→Act→World→Prop),(∀ρ' u w',(∀d,x.2.dst=some d→Yw ρ' (st'.tmp d) u)→Rel ρ' mem next w'→(∀b,ρ' b=ρ b)→(∀floor m,Ev ρ ρ' floor m next m next w w')→K (a.put x.2.dst u) w')→
   if Region.wanted x.2 (yielded ops a.tmps) then x.2.wp P a w K Q else K (a.put x.2.dst undef) w
theorem y7o {z:Nat} {op:Op} (h:y9j z op=false) (h2:isBirth z op=false):Xj z op=Xk op:=by unfold Xj;rw [h,h2];rfl
theorem v9d {o:Oper} {t:TypeId} {z:List AVal} (ho:o.op=.alloc t) (hz:z0d P t=some z) (a:Act) (w:World):
  ∃vs:Array Value,Ue ρ z vs∧(execOp a.eval o).run P w=.ok (.value (.pointer (some ⟨w.heap.size,0,none⟩))) {w with heap:=w.heap.push (.cells vs t)}:=by
 obtain ⟨dst,op,type,pos,after,guard⟩:=o;simp only at ho;subst ho;obtain ⟨_,zv,_,_,hzr,hzv⟩:=Wq (ρ:=ρ) hz;exact ⟨zv.cells,hzr,by simp [execOp,Instr.alloc,hzv,newVar,newRow]⟩
theorem x5b {w:World} {t:TypeId} {len:Nat} {ps:List (Nat×AVal)} {qs:List (Nat×Value)} {cells:List AVal} {e:TypeId} {sz:Nat} (hb:w4m P t len ps=some (cells,e,sz)) (hp:z2j ρ ps qs):
  ∃vs el,Ue ρ cells vs∧(Instr.buildSlice t len qs.toArray).run P w=.ok (.slice (some ⟨w.heap.size,0,none⟩) len len) {w with heap:=w.heap.push (.cells vs el)}∧cells.length=len*sz∧vs.size=len*sz:=by
 unfold w4m at hb;split at hb
 ·rename_i e hu;split at hb
  ·rename_i i zero hi hz;obtain ⟨hc,hb⟩:=Zs hb;simp only [Ac] at hc;obtain ⟨⟨hl1,hs1⟩,hle,hzl⟩:=hc;have hl1:=Al hl1;have hs1:=Al hs1;have hle:=Al hle;have hzl:=Ak hzl;split at hb
   ·rename_i cells dV;obtain ⟨hn,hb⟩:=Zs hb;have hn:=Ak hn;simp only [Ae,Ad] at hb;obtain ⟨rfl,rfl,rfl⟩:=hb;obtain ⟨_,z,_,_,hzr,hzv⟩:=Wq (ρ:=ρ) hz;have fD:=y1m hzr len (len*i.size) (by rw [hzl]);obtain ⟨arr,h1,h2⟩:=Qb dV fD hp;have hsz:arr.size=len*i.size:=(by rw [←h2.1,hn]);have hgt': ¬2 ^ 24<len*i.size:=(by omega);have hpos:0<len*i.size:=Nat.mul_pos (by omega) (by omega);have h0: ¬len*i.size=0:=(by omega);have hsz0: ¬i.size=0:=(by omega);exact ⟨arr,e,h2,by simp [Instr.buildSlice,run_underlying hu,Zo hi,h0,hsz0,hzv,h1,newRow,hgt'],hn,hsz⟩
   ·cases hb
  ·cases hb
 ·cases hb
theorem x1u (op:Op):Xk op≠ .lit :=by
 cases op with
 | call c=>
  obtain ⟨callee,args,argTypes⟩:=c;cases callee with
  | builtin b=>cases b <;> exact fun h=>by cases h
  | value f=>exact fun h=>by cases h
  | invoke r m=>exact fun h=>by cases h
 | _=>exact fun h=>by cases h
theorem y3b (op:Op):Xk op≠ .birth :=by
 cases op with
 | call c=>
  obtain ⟨callee,args,argTypes⟩:=c;cases callee with
  | builtin b=>cases b <;> exact fun h=>by cases h
  | value f=>exact fun h=>by cases h
  | invoke r m=>exact fun h=>by cases h
 | _=>exact fun h=>by cases h
theorem w7z {S:Specs} {R:Runner} (hN:y0s P) (hS:Zu P S) (hRI:w7j R) (hR:ROk P R) {z:Nat} {ops:Array Oper} {x:Bool×Oper} {cx:Ctx} {st st':St} (hcx:cx.floor≤st.next) (h:x9e z P S R ops cx x st=some st'):
  u5o S z P ops cx x st st':=by
 unfold x9e at h;cases hz:y9j z x.2.op with
 | false=>
  rw [hz,Aa] at h;cases hz2:isBirth z x.2.op with
  | false=>
   rw [hz2,Aa] at h;have s:=y9z hN hS hRI hR hcx h;have hk:=y7o hz hz2;refine ⟨s.inv,fun k=> ?_,?_,?_,?_,s.slot,s.other,fun ho _=>s.does ho,fun ho k=>s.calm ho (by rw [←hk];exact k),fun _ k=> ?_⟩
   ·rw [hk] at k;rcases k with k | k | k
    ·exact s.stay (.inl k)
    ·exact s.stay (.inr k)
    ·exact absurd k (x1u _)
   ·rw [hk];exact s.lift
   ·rw [hk];exact s.foot
   ·intro _ k hg;have k:Xk x.2.op=.alloc :=by
     rw [hk] at k;rcases k with k | k
     ·exact k
     ·exact absurd k (y3b _)
    obtain ⟨t,z0,e1,e2,e3,e4,e5⟩:=s.alloc k hg;refine ⟨z0,t,e3,e4,fun ρ a w ev _ _=> ?_⟩;obtain ⟨vs,hvs,dS⟩:=v9d (P:=P) (ρ:=ρ) e1 e2 a w;exact ⟨_,vs,t,hvs,dS,fun ρ' hρ d hd=>by rw [e5 d hd];exact .ptr _ 0 _ hρ⟩
   ·rw [hk] at k;exact absurd k (x1u _)
  | true=>
   rw [hz2,Ab] at h;have hk:Xj z x.2.op=.birth :=by unfold Xj;rw [hz,hz2];rfl
   obtain ⟨lf,o⟩:=x;obtain ⟨dst,op,type,pos,after,guard⟩:=o;simp only at h hz hz2 hk ⊢;cases op with
   | buildSlice t len parts=>
    split at h
    ·cases h
    ·rename_i st1 hw;obtain ⟨w1,w2,w3⟩:=Wu hw;unfold y8l at h;simp only at h;split at h
     ·rename_i cells e sz hv;obtain ⟨p1,p2,p3,p4⟩:=Wn h;have fO: ∀d,dst=some d→st'.tmp d=.sl st1.next 0 len (bif cx.sym then .un sz else .ex len):=fun d hd=>by
       rcases p4 with ⟨e,_⟩ | ⟨d',e,_,he⟩
       ·rw [hd] at e;cases e
       ·rw [hd] at e;obtain rfl:=Af e;show T.get .undef st'.env d=_;rw [he,T.get_set,AC rfl]
      have hi1:Xe cx.floor st st1:=Xe.same w1 w2 fun ho=>(w3 ho).1;have hi2:Xe cx.floor (y2k st1 cells e) st':=Xe.same p1 p2 fun ho=>by rw [←p3];exact ho
      obtain ⟨env1,mem1,next1,orc1,ob1⟩:=st1;simp only [y2k] at p1 p2 p3 p4;simp only at w1 w2 fO;refine ⟨(hi1.trans (Xe.new _ _ _)).trans hi2,(fun k=>by rw [hk] at k;rcases k with k | k | k <;> cases k),(fun _ _ k=>by rw [hk] at k;cases k),(fun _ k=>by rw [hk] at k;cases k),fun ho _ _=> ?_,fun d hd=> ?_,fun ho t ht=> ?_,(fun _ k=>by rcases k with k | k <;> rw [hk] at k <;> cases k),(fun _ k=>by rcases k with k | k <;> rw [hk] at k <;> cases k),(fun _ k=>by rw [hk] at k;cases k)⟩
      ·have ho1:ob1=true:=by rw [←p3];exact ho
       have eB:=(w3 ho1).2;refine ⟨cells,e,by rw [p1,w1,w2],by rw [p2,w2],fun ρ a w ev hev hr=> ?_⟩;have fP: ∀y,St.eval ⟨env1,mem1,next1,orc1,ob1⟩ y=st.eval y:=fun y=>by cases y <;> first | rfl | exact eB _
       have hpr:z2j ρ (parts.toList.map fun p=>(p.1,St.eval ⟨env1,mem1,next1,orc1,ob1⟩ p.2)) (parts.toList.map fun p=>(p.1,a.eval p.2)):=z3t parts.toList fun p hp=>by
        have hm:p.2∈(Op.buildSlice t len parts).operands :=by simp only [Op.operands,List.mem_toArray,AQ];exact ⟨p,hp,rfl⟩
        rw [fP p.2,←hev p.2 hm];exact hr p.2 hm
       obtain ⟨vs,el,hvs,dS,hn1,hn2⟩:=x5b (w:=w) hv hpr;have hpa:(parts.map fun (i,x)=>(i,a.eval x))=(parts.toList.map fun p=>(p.1,a.eval p.2)).toArray :=by apply Array.ext';simp
       refine ⟨.slice (some ⟨w.heap.size,0,none⟩) len len,vs,el,hvs,by simp [execOp,hpa,dS],fun ρ' hρ d hd=> ?_⟩;rw [fO d hd,w2];refine .sl _ 0 len _ ⟨w.heap.size,0,cells.length,vs.size⟩ len hρ ?_ (Ar _);cases cx.sym with
       | true=>exact ⟨by simp only [Ag];rw [hn1];exact Ar _,by simp only [Ag];rw [hn2];exact Ar _⟩
       | false=>exact rfl
      ·rcases p4 with ⟨e,_⟩ | ⟨d',e,hlt,_⟩
       ·simp only at hd;rw [hd] at e;cases e
       ·simp only at hd;rw [hd] at e;obtain rfl:=Af e;exact hlt
      ·have ho1:ob1=true:=by rw [←p3];exact ho
       rw [←(w3 ho1).2 t];show T.get .undef st'.env t=T.get .undef env1 t;rcases p4 with ⟨_,he⟩ | ⟨d,e,_,he⟩
       ·rw [he]
       ·rw [he,T.get_set,Ay (by intro htd;subst htd;exact ht e)]
     ·cases h
    ·rename_i st1 hw;obtain ⟨w1,w2,w3⟩:=Wu hw;obtain ⟨p1,p2,p3,p4⟩:=Wn h;have hi1:Xe cx.floor st st1:=Xe.same w1 w2 fun ho=>(w3 ho).1;have hi2:Xe cx.floor st1 st':=Xe.same p1 p2 fun ho=>by rw [←p3];exact ho
     refine ⟨hi1.trans hi2,(fun k=>by rw [hk] at k;rcases k with k | k | k <;> cases k),(fun _ _ k=>by rw [hk] at k;cases k),(fun _ k=>by rw [hk] at k;cases k),fun _ _ hg=> ?_,fun d hd=> ?_,fun ho t ht=> ?_,(fun _ k=>by rcases k with k | k <;> rw [hk] at k <;> cases k),(fun _ k=>by rcases k with k | k <;> rw [hk] at k <;> cases k),(fun _ k=>by rw [hk] at k;cases k)⟩
     ·obtain ⟨st0,hw0,_⟩:=Kt hw;unfold y0p at hw0;simp only at hg;rw [hg] at hw0;simp at hw0
     ·rcases p4 with ⟨e,_⟩ | ⟨d',e,hlt,_⟩
      ·simp only at hd;rw [hd] at e;cases e
      ·simp only at hd;rw [hd] at e;obtain rfl:=Af e;exact hlt
     ·have ho1:st1.ob=true:=by rw [←p3];exact ho
      rw [←(w3 ho1).2 t];show T.get .undef st'.env t=T.get .undef st1.env t;rcases p4 with ⟨_,he⟩ | ⟨d,e,_,he⟩
      ·rw [he]
      ·rw [he,T.get_set,Ay (by intro htd;subst htd;exact ht e)]
   | _=>cases hz2
 | true=>
  rw [hz,Ab] at h;have hk:Xj z x.2.op=.lit :=by unfold Xj;rw [hz];rfl
  obtain ⟨lf,o⟩:=x;obtain ⟨dst,op,type,pos,after,guard⟩:=o;simp only at h hz hk ⊢;cases op with
  | buildSlice t len parts=>
   split at h
   ·cases h
   ·rename_i st1 hw;obtain ⟨w1,w2,w3⟩:=Wu hw;unfold w2d at h;simp only at h;split at h
    ·rename_i v hv;obtain ⟨p1,p2,p3,p4⟩:=Wn h;have fO: ∀d,dst=some d→st'.tmp d=v:=fun d hd=>by
      rcases p4 with ⟨e,_⟩ | ⟨d',e,_,he⟩
      ·rw [hd] at e;cases e
      ·rw [hd] at e;obtain rfl:=Af e;show T.get .undef st'.env d=v;rw [he,T.get_set,AC rfl]
     have hi1:Xe cx.floor st st1:=Xe.same w1 w2 fun ho=>(w3 ho).1;have hi2:Xe cx.floor st1 st':=Xe.same p1 p2 fun ho=>by rw [←p3];exact ho
     refine ⟨hi1.trans hi2,fun _=>⟨p1.trans w1,p2.trans w2⟩,(fun _ _ k=>by rw [hk] at k;cases k),(fun _ k=>by rw [hk] at k;cases k),(fun _ k=>by rw [hk] at k;rcases k with k | k <;> cases k),fun d hd=> ?_,fun ho t ht=> ?_,(fun _ k=>by rcases k with k | k <;> rw [hk] at k <;> cases k),(fun _ k=>by rcases k with k | k <;> rw [hk] at k <;> cases k),fun ho _ ρ a w ev mem next hsz hev hgr hr dQ K Q hK=> ?_⟩
     ·rcases p4 with ⟨e,_⟩ | ⟨d',e,hlt,_⟩
      ·simp only at hd;rw [hd] at e;cases e
      ·simp only at hd;rw [hd] at e;obtain rfl:=Af e;exact hlt
     ·have ho1:st1.ob=true:=by rw [←p3];exact ho
      rw [←(w3 ho1).2 t];show T.get .undef st'.env t=T.get .undef st1.env t;rcases p4 with ⟨_,he⟩ | ⟨d,e,_,he⟩
      ·rw [he]
      ·rw [he,T.get_set,Ay (by intro htd;subst htd;exact ht e)]
     ·have ho1:st1.ob=true:=by rw [←p3];exact ho
      have eB:=(w3 ho1).2;have fP: ∀y,st1.eval y=st.eval y:=fun y=>by cases y <;> first | rfl | exact eB _
      rw [Ja hw ho1 hsz hgr,AC rfl];have hpr:z2j ρ (parts.toList.map fun p=>(p.1,st1.eval p.2)) (parts.toList.map fun p=>(p.1,a.eval p.2)):=z3t parts.toList fun p hp=>by
       have hm:p.2∈(Op.buildSlice t len parts).operands :=by simp only [Op.operands,List.mem_toArray,AQ];exact ⟨p,hp,rfl⟩
       rw [fP p.2,←hev p.2 hm];exact hr p.2 hm
      obtain ⟨u,vs,el,dS,hu⟩:=w4h hv hpr (dQ.hold w.heap.size (Ar _));have:(parts.map fun (i,x)=>(i,a.eval x))=(parts.toList.map fun p=>(p.1,a.eval p.2)).toArray :=by apply Array.ext';simp
      unfold Oper.wp;have hrun':(execOp a.eval ⟨dst,.buildSlice t len parts,type,pos,after,guard⟩).run P w=.ok (.value u) {w with heap:=w.heap.push (.cells vs el)}:=by simp [execOp,this,dS]
      rw [hrun'];exact hK _ u _ (fun d hd=>by rw [fO d hd];exact hu) (dQ.froze vs el) (fun _=>rfl) fun floor m=>Ev.froze dQ floor m vs el
    ·cases h
   ·rename_i st1 hw;obtain ⟨w1,w2,w3⟩:=Wu hw;obtain ⟨p1,p2,p3,p4⟩:=Wn h;have fO: ∀d,dst=some d→st'.tmp d=.tup []:=fun d hd=>by
     rcases p4 with ⟨e,_⟩ | ⟨d',e,_,he⟩
     ·rw [hd] at e;cases e
     ·rw [hd] at e;obtain rfl:=Af e;show T.get .undef st'.env d=_;rw [he,T.get_set,AC rfl]
    have hi1:Xe cx.floor st st1:=Xe.same w1 w2 fun ho=>(w3 ho).1;have hi2:Xe cx.floor st1 st':=Xe.same p1 p2 fun ho=>by rw [←p3];exact ho
    refine ⟨hi1.trans hi2,fun _=>⟨p1.trans w1,p2.trans w2⟩,(fun _ _ k=>by rw [hk] at k;cases k),(fun _ k=>by rw [hk] at k;cases k),(fun _ k=>by rw [hk] at k;rcases k with k | k <;> cases k),fun d hd=> ?_,fun ho t ht=> ?_,(fun _ k=>by rcases k with k | k <;> rw [hk] at k <;> cases k),(fun _ k=>by rcases k with k | k <;> rw [hk] at k <;> cases k),fun ho _ ρ a w ev mem next hsz hev hgr hr dQ K Q hK=> ?_⟩
    ·rcases p4 with ⟨e,_⟩ | ⟨d',e,hlt,_⟩
     ·simp only at hd;rw [hd] at e;cases e
     ·simp only at hd;rw [hd] at e;obtain rfl:=Af e;exact hlt
    ·have ho1:st1.ob=true:=by rw [←p3];exact ho
     rw [←(w3 ho1).2 t];show T.get .undef st'.env t=T.get .undef st1.env t;rcases p4 with ⟨_,he⟩ | ⟨d,e,_,he⟩
     ·rw [he]
     ·rw [he,T.get_set,Ay (by intro htd;subst htd;exact ht e)]
    ·have ho1:st1.ob=true:=by rw [←p3];exact ho
     rw [Ja hw ho1 hsz hgr,Ay Bool.false_ne_true];exact hK ρ undef w (fun d hd=>by rw [fO d hd];exact .tup [] #[] rfl fun i h1 _=>by simp at h1) dQ (fun _=>rfl) fun floor m=>Ev.refl _ _ _ _ _ dQ.dom
  | _=>cases hz
end
section
variable {ops:Array Oper}
def y0t (ops:Array Oper) (S:Nat→Bool):Prop:= ∀j o,ops[j]? =some o→S j=true→ ∀e∈o.after.toList,Region.binds .any e=true→S e.on=true
def x5g (S:Nat→Bool) (o:Oper):Prop:= ∀e∈o.after.toList,Region.binds .any e=true→S e.on=true
def y3k (ops:Array Oper) (i:Nat) (o:Oper):Prop:= ∀S,y0t ops S→x5g S o→S i=true
theorem x7k (acc:List Nat) (i:Nat): ∀(es:List Edge) (s:Nat),(es.foldl (fun s e=>bif Region.binds .any e then s||| (2 ^ e.on)||| acc.getD e.on 0 else s) s).testBit i=true→
  s.testBit i=true∨ ∃e∈es,Region.binds .any e=true∧(e.on=i∨(acc.getD e.on 0).testBit i=true)
 | [],s,h=>.inl h
 | e::es,s,h=>by
  simp only [List.foldl_cons] at h;rcases x7k acc i es _ h with h | ⟨e',he',h1,h2⟩
  ·cases hb:Region.binds .any e with
   | false=>rw [hb] at h;exact .inl h
   | true=>
    rw [hb,Ab,Nat.testBit_or,Nat.testBit_or,Br,Br] at h;rcases h with (h | h) | h
    ·exact .inl h
    ·rw [Nat.testBit_two_pow] at h;exact .inr ⟨e,by simp,hb,.inl (by simpa using h)⟩
    ·exact .inr ⟨e,by simp,hb,.inr h⟩
  ·exact .inr ⟨e',by simp [he'],h1,h2⟩
theorem x7s (fK: ∀(j:Nat) o,ops[j]? =some o→ ∀e∈o.after.toList,Region.binds .any e=true→e.on<j): ∀(l:List Oper) (acc:List Nat),acc.length+l.length=ops.size→(∀k,l[k]? =ops[acc.length+k]?)→
  (∀k o,k<acc.length→ops[k]? =some o→ ∀i,(acc.getD k 0).testBit i=true→i<k∧y3k ops i o)→
  ∀k o,ops[k]? =some o→ ∀i,((v1o l acc).getD k 0).testBit i=true→i<k∧y3k ops i o
 | [],acc,dR,_,gG,k,o,ho,i,h=>by have hk:k<ops.size:=(AJ.1 ho).1;simp at dR;exact gG k o (by omega) ho i h
 | x::l,acc,dR,hl,gG,k,o,ho,i,h=>by
  unfold v1o at h;refine x7s fK l (acc++[x.after.toList.foldl (fun s e=>bif Region.binds .any e then s||| (2 ^ e.on)||| acc.getD e.on 0 else s) 0]) (by simp at dR ⊢;omega) (fun k=>by
   have:=hl (k+1)
   simpa [AB,Nat.add_comm 1 k] using this) (fun k' o' hk' ho' i' hi'=> ?_) k o ho i h
  by_cases hlt:k'<acc.length
  ·refine gG k' o' hlt ho' i' ?_;rw [List.getD,Bx hlt] at hi';exact hi'
  ·have hk2:k'=acc.length:=by simp at hk';omega
   subst hk2;have hx:ops[acc.length]? =some x:=by simpa using (hl 0).symm
   rw [hx] at ho';obtain rfl:=Af ho';have hg:(acc++[x.after.toList.foldl (fun s e=>bif Region.binds .any e then s||| (2 ^ e.on)||| acc.getD e.on 0 else s) 0]).getD acc.length 0=x.after.toList.foldl (fun s e=>bif Region.binds .any e then s||| (2 ^ e.on)||| acc.getD e.on 0 else s) 0:=by simp [List.getD]
   rw [hg] at hi';rcases x7k acc i' _ _ hi' with h0 | ⟨e,he,hb,h1⟩
   ·simp at h0
   ·have hlt':=fK _ _ hx e he hb;rcases h1 with rfl | h1
    ·exact ⟨hlt',fun S _ hr=>hr e he hb⟩
    ·have ho2:ops[e.on]? =some (ops[e.on]'(by simp at dR;omega)):=(by simp);obtain ⟨q1,q2⟩:=gG e.on _ hlt' ho2 i' h1;exact ⟨by omega,fun S hc hr=>q2 S hc fun e' he' hb'=>hc e.on _ ho2 (hr e he hb) e' he' hb'⟩
theorem x4d {z:Nat} {op:Op} {k:Kind} (hk:k≠ .lit) (hb:k≠ .birth):Xj z op=k↔Xk op=k∧y9j z op=false∧isBirth z op=false:=by
 cases hz:y9j z op with
 | false=>
  cases hz2:isBirth z op with
  | false=>rw [y7o hz hz2];simp
  | true=>
   have:Xj z op=.birth :=by unfold Xj;rw [hz,hz2];rfl
   rw [this];exact ⟨fun h=>absurd h.symm hb,fun h=>by cases h.2.2⟩
 | true=>
  have:Xj z op=.lit :=by unfold Xj;rw [hz];rfl
  rw [this];exact ⟨fun h=>absurd h.symm hk,fun h=>by cases h.2.1⟩
theorem w2p {z:Nat} {op:Op} (h:y9j z op=true):Xk op=.chain :=by
 cases op <;> first | rfl | (cases h;done)
theorem x4e {z:Nat} {op:Op} (h:isBirth z op=true):Xk op=.chain :=by
 cases op <;> first | rfl | (cases h;done)
theorem x6z {z:Nat} {op:Op} {k:Kind} (hk:k≠ .lit) (hb:k≠ .birth) (hc:k≠ .chain):Xj z op=k↔Xk op=k:=by
 rw [x4d hk hb];constructor
 ·exact fun h=>h.1
 ·intro h;refine ⟨h,?_,?_⟩
  ·cases hz:y9j z op with
   | false=>rfl
   | true=>exact absurd (h.symm.trans (w2p hz)) hc
  ·cases hz:isBirth z op with
   | false=>rfl
   | true=>exact absurd (h.symm.trans (x4e hz)) hc
theorem z3z {z:Nat} {op:Op}:Xj z op=.alloc ↔Xk op=.alloc :=x6z (fun h=>by cases h) (fun h=>by cases h) fun h=>by cases h
theorem x1t {z:Nat} {op:Op}:Xj z op=.read ↔Xk op=.read :=x6z (fun h=>by cases h) (fun h=>by cases h) fun h=>by cases h
theorem y7p {z:Nat} {op:Op} (h:Xj z op=.birth):isBirth z op=true:=by
 cases hz:isBirth z op with
 | true=>rfl
 | false=>
  cases hl:y9j z op with
  | true=>unfold Xj at h;rw [hl] at h;cases h
  | false=>rw [y7o hl hz] at h;exact absurd h (y3b _)
structure v9s (z:Nat) (ops:Array Oper):Prop where
 ord: ∀(j:Nat) o,ops[j]? =some o→ ∀e∈o.after.toList,Region.binds .any e=true→e.on<j
 guard: ∀(j:Nat) o,ops[j]? =some o→(Xj z o.op=.alloc ∨Xj z o.op=.birth)→o.guard=none
 bits: ∀(j:Nat) o,ops[j]? =some o→ ∀i,((v1o ops.toList []).getD j 0).testBit i=true→i<j∧y3k ops i o
 pair: ∀(i j:Nat) p o,i<j→ops[i]? =some p→ops[j]? =some o→y3k ops i o∨(p.apart ops o=true∧w2h (Xj z p.op) (Xj z o.op)=true∧(Xj z o.op=.read →z5o ops i=true)∧(Xj z p.op=.read →z5o ops j=true))
 dst: ∀(i j:Nat) p o d,i<j→ops[i]? =some p→ops[j]? =some o→p.dst=some d→o.dst≠some d
 alloc: ∀(i j:Nat) p o,i<j→ops[i]? =some p→ops[j]? =some o→Xj z o.op=.alloc →p.apart ops o=true
 birth: ∀(i j:Nat) p o,i<j→ops[i]? =some p→ops[j]? =some o→Xj z o.op=.birth → ¬(Xj z p.op=.chain ∨Xj z p.op=.call)
theorem z8c {z:Nat} (h:y8f z ops=true):v9s z ops:=by
 have hj: ∀(j:Nat) o,ops[j]? =some o→(o.after.toList.all (fun e=> !Region.binds .any e||Nat.ble (e.on+1) j)=true∧(!(Xk o.op == .alloc ||isBirth z o.op)||o.guard.isNone)=true)∧ ∀(i:Nat) p,i<j→ops[i]? =some p→x1i z ops i j p o=true:=by intro j o ho;have hlt:j<ops.size:=(AJ.1 ho).1;have:=At.1 h j (A0.2 hlt);rw [ho] at this;simp only [Ac] at this;refine ⟨this.1,fun i p hi hp=> ?_⟩;have:=At.1 this.2 i (A0.2 hi);rwa [hp] at this
 have ord: ∀(j:Nat) o,ops[j]? =some o→ ∀e∈o.after.toList,Region.binds .any e=true→e.on<j:=by intro j o ho e he hb;have:=At.1 (hj j o ho).1.1 e he;rw [hb] at this;exact Al (by simpa using this)
 have bits:=x7s ord ops.toList [] (by simp) (fun k=>by simp) (fun k o hk=>by simp at hk);refine ⟨ord,fun j o ho hk=> ?_,fun j o ho i hb=>bits j o ho i hb,fun i j p o hij hp ho=> ?_,fun i j p o d hij hp ho hd=> ?_,fun i j p o hij hp ho hk=> ?_,fun i j p o hij hp ho hk hc=> ?_⟩
 ·have:=(hj j o ho).1.2;rcases hk with hk | hk
  ·rw [z3z.1 hk] at this
   simpa using this
  ·rw [y7p hk] at this
   simpa using this
 ·have hpo:=(hj j o ho).2 i p hij hp;unfold x1i at hpo;simp only [Ac,Br] at hpo;cases hb:((v1o ops.toList []).getD j 0).testBit i with
  | true=>exact .inl (bits j o ho i hb).2
  | false=>
   right;rcases hpo.1.1.1 with h1 | ⟨h1,h2⟩
   ·rw [hb] at h1;cases h1
   ·have hi:i<ops.size:=(AJ.1 hp).1;have hjl:j<ops.size:=(AJ.1 ho).1;refine ⟨h1,h2,fun hr=> ?_,fun hr=> ?_⟩
    ·unfold z5o;rw [Cv];refine ⟨j,A0.2 hjl,?_⟩;rw [ho,Option.any_some,x1t.1 hr,hb];have:Nat.ble (i+1) j=true:=Bh hij;rw [this];simp
    ·unfold z5o;rw [Cv];refine ⟨i,A0.2 hi,?_⟩;rw [hp,Option.any_some,x1t.1 hr,hb];have:Nat.ble (i+1) j=true:=Bh hij;rw [this];simp
 ·have hpo:=(hj j o ho).2 i p hij hp;unfold x1i at hpo;simp only [Ac] at hpo;have:=hpo.1.1.2;rw [hd] at this;intro e;rw [e] at this;simp at this
 ·have hpo:=(hj j o ho).2 i p hij hp;unfold x1i at hpo;simp only [Ac] at hpo;have:=hpo.1.2;rw [z3z.1 hk] at this
  simpa using this
 ·have hpo:=(hj j o ho).2 i p hij hp;unfold x1i at hpo;simp only [Ac] at hpo;have:=hpo.2;rw [y7p hk] at this;rcases hc with hc | hc <;> rw [hc] at this <;> cases this
theorem Jj {z:Nat} {i:Nat} {o:Oper} (ho:ops[i]? =some o):isAlloc ops i=true↔Xj z o.op=.alloc :=by rw [z3z];unfold isAlloc;rw [ho,Option.any_some];simp
theorem y0h (i:Nat):i∈Yk ops↔i<ops.size:=by unfold Yk;simp only [AF,A2,A0];cases isAlloc ops i <;> simp
theorem Xw :(Yk ops).length =ops.size:=by
 unfold Yk;rw [Aw,←List.countP_eq_length_filter,←List.countP_eq_length_filter];have:=List.length_eq_countP_add_countP (isAlloc ops) (l:=List.range ops.size);simp only [Ch] at this;have e:(fun i=> !isAlloc ops i)=(fun i=>decide (¬isAlloc ops i=true)):=by funext i;cases isAlloc ops i <;> rfl
 rw [e];omega
def Ord (ops:Array Oper) (i j:Nat):Prop:=(isAlloc ops i=true∧isAlloc ops j=false)∨(isAlloc ops i=isAlloc ops j∧i<j)
theorem y0g :(Yk ops).Pairwise (Ord ops):=by
 unfold Yk;rw [BN];have hr:(List.range ops.size).Pairwise (· < ·):=List.pairwise_lt_range;refine ⟨?_,?_,?_⟩
 ·refine ((hr.filter _).imp_of_mem fun {a b} ha hb h=> ?_);have h1:=(A2.1 ha).2;have h2:=(A2.1 hb).2;exact .inr ⟨h1.trans h2.symm,h⟩
 ·refine ((hr.filter _).imp_of_mem fun {a b} ha hb h=> ?_);have h1:=(A2.1 ha).2;have h2:=(A2.1 hb).2;refine .inr ⟨?_,h⟩;cases e1:isAlloc ops a <;> cases e2:isAlloc ops b <;> simp_all
 ·intro a ha b hb;have h1:=(A2.1 ha).2;have h2:=(A2.1 hb).2;exact .inl ⟨h1,by simpa using h2⟩
theorem x4j {k1 k2:Nat} (h:k1<k2) (h2:k2<(Yk ops).length):Ord ops ((Yk ops)[k1]'(by omega)) (Yk ops)[k2]:=
 Bk.1 y0g k1 k2 (by omega) h2 h
end
theorem x6o {P:Program} {S:Specs} {R:Runner} {ops:Array Oper} {cx:Ctx}: ∀(l:List (Bool×Oper)) (st st':St),x1k P S R ops cx l st=some st'→
  ∃f:Nat→St,f 0=st∧f l.length=st'∧ ∀(k:Nat) (h:k<l.length),y9g P S R ops cx l[k] (f k)=some (f (k+1))
 | [],st,st',h=>by have h:some st=some st':=h;obtain rfl:=Af h;exact ⟨fun _=>st,rfl,rfl,fun k h=>by simp at h⟩
 | x::l,st,st',h=>by
  rw [z7t,BF] at h;obtain ⟨st1,h1,h2⟩:=h;obtain ⟨f,f0,fn,fs⟩:=x6o l st1 st' h2;refine ⟨fun k=>match k with | 0=>st | k+1=>f k,rfl,fn,fun k hk=> ?_⟩;cases k with
  | zero=>simpa [f0] using h1
  | succ k=>simpa using fs k (by simpa using hk)
def x8h (ops:Array Oper) (x y:Foot):Prop:=clash x.2.1 y.2.2=true∨clash x.2.2 y.2.1=true→ordered ops x.1 y.1=true
theorem w2y {ops:Array Oper} {x y:Foot} (h:w6r ops x y=true):x8h ops x y:=by
 intro hc;unfold w6r at h;simp only [Br,BE,Bu] at h;rcases h with ⟨h1,h2⟩ | h
 ·rcases hc with hc | hc
  ·rw [h1] at hc;cases hc
  ·rw [h2] at hc;cases hc
 ·exact h
theorem z3u {z:Nat} {P:Program} {S:Specs} {R:Runner} {ops:Array Oper} {cx:Ctx}: ∀(l:List (Nat×Bool×Oper)) (acc:List Foot) (st st':St),y1p z P S R ops cx l acc st=some st'→
  ∃f:Nat→St,f 0=st∧f l.length=st'∧(∀(k:Nat) (h:k<l.length),x9e z P S R ops cx l[k].2 (f k)=some (f (k+1)))∧
   (∀(k:Nat) (h:k<l.length),∀y∈acc,x8h ops (z4o S l[k] (f k).eval) y∨lateF z ops l[k] (f k).eval (f k).mem y=true)∧
   ∀(q k:Nat) (hq:q<k) (h:k<l.length),x8h ops (z4o S l[k] (f k).eval) (z4o S (l[q]'(by omega)) (f q).eval)∨lateF z ops l[k] (f k).eval (f k).mem (z4o S (l[q]'(by omega)) (f q).eval)=true
 | [],acc,st,st',h=>by have h:some st=some st':=h;obtain rfl:=Af h;exact ⟨fun _=>st,rfl,rfl,fun k h=>by simp at h,fun k h=>by simp at h,fun q k _ h=>by simp at h⟩
 | x ::l,acc,st,st',h=>by
  have h:(bif acc.all (fun y=>w6r ops (z4o S x st.eval) y||lateF z ops x st.eval st.mem y) then
    match x9e z P S R ops cx x.2 st with
    | some st'=>y1p z P S R ops cx l (z4o S x st.eval::acc) st'
    | none=>none
   else none)=some st':=h
  obtain ⟨gG,h⟩:=Zs h;split at h
  ·rename_i st1 h1;obtain ⟨f,f0,fn,fs,fa,fp⟩:=z3u l _ st1 st' h;refine ⟨fun k=>match k with | 0=>st | k+1=>f k,rfl,fn,fun k hk=> ?_,fun k hk y hy=> ?_,fun q k hqk hk=> ?_⟩
   ·cases k with
    | zero=>simpa [f0] using h1
    | succ k=>simpa using fs k (by simpa using hk)
   ·cases k with
    | zero=>have:=At.1 gG y hy;rw [Br] at this;exact this.imp w2y id
    | succ k=>simpa using fa k (by simpa using hk) y (by simp [hy])
   ·cases k with
    | zero=>omega
    | succ k=>
     cases q with
     | zero=>simpa using fa k (by simpa using hk) (z4o S x st.eval) (by simp)
     | succ q=>simpa using fp q k (by omega) (by simpa using hk)
  ·cases h
theorem x5l {S:Specs} {op:Op} (h:Xk op=.chain) (ev:Operand→AVal):wrC S op ev=x5h op ev:=by
 cases op with
 | call c=>
  obtain ⟨callee,args,argTypes⟩:=c;cases callee with
  | value f=>cases h
  | _=>rfl
 | _=>rfl
theorem z4c (p q:Nat→Bool) (i:Nat): ∀(n:Nat),(∀k,k≠i→q k=p k)→p i=true→q i=false→i<n→(List.range n).countP q+1=(List.range n).countP p
 | 0,_,_,_,h=>absurd h (AO _)
 | n+1,hpq,hp,hq,h=>by
  rw [Ce,List.countP_append,List.countP_append];by_cases hi:i<n
  ·have:=z4c p q i n hpq hp hq hi;have e:q n=p n:=hpq n (by omega);simp only [List.countP_cons,List.countP_nil,e];omega
  ·have hin:i=n:=by omega
   subst hin;have e:(List.range i).countP q=(List.range i).countP p:=List.countP_congr fun k hk=>by rw [hpq k (by have:=A0.1 hk;omega)]
   simp [e,hp,hq]
section
variable {P:Program}
theorem Rel.unborn {ρ:Rho} {mem:Mem} {next:Nat} {w:World} (h:Rel ρ mem next w) (o:Option ABlk):Rel ρ (Wz mem next o) (next+1) w:=by
 have ne: ∀b l,ρ b=some l→b≠next:=fun b l e=>by have:=h.dom b l e;omega
 refine ⟨fun b l e=>by have:=h.dom b l e;omega,fun b b' l l' e e' he hs hs'=> ?_,fun b l ab e hm=> ?_,h.old,fun b l e hs=>h.sep b l e (by rwa [Zw _ _ (ne b l e)] at hs),h.real,fun b hb=>by rw [Zw _ _ (by omega)];exact h.bd b (by omega),fun j l e=>BQ (h.ldom j l e)⟩
 ·rw [Zw _ _ (ne b l e)] at hs;rw [Zw _ _ (ne b' l' e')] at hs';exact h.inj b b' l l' e e' he hs hs'
 ·rw [Zw _ _ (ne b l e)] at hm;exact h.blk b l ab e hm
theorem Rel.birth {ρ:Rho} {mem:Mem} {next:Nat} {w:World} (h:Rel ρ mem next w) {b:Nat} {cs:List AVal} {ty:TypeId} (hb:b<next) (hn:ρ b=none) (hm:Yn mem b=some ⟨cs,ty,none⟩) {vs:Array Value} (el:TypeId) (hv:Ue ρ cs vs):
  Rel (Uw ρ b ⟨w.heap.size,0,cs.length,vs.size⟩) mem next {w with heap:=w.heap.push (.cells vs el)}:=by
 have hle:=z1a (l:=⟨w.heap.size,0,cs.length,vs.size⟩) hn;have dY: ∀c l,Uw ρ b ⟨w.heap.size,0,cs.length,vs.size⟩ c=some l→(c=b∧l=⟨w.heap.size,0,cs.length,vs.size⟩)∨(c≠b∧ρ c=some l):=fun c l e=>by
  rw [Uq] at e;by_cases hc:c=b
  ·rw [AC hc] at e;exact .inl ⟨hc,(Af e).symm⟩
  ·rw [Ay hc] at e;exact .inr ⟨hc,e⟩
 refine ⟨fun c l e=> ?_,fun c c' l l' e e' hbl hs hs'=> ?_,fun c l ab e hc=> ?_,fun k o e=> ?_,fun c l e=> ?_,fun c l e=> ?_,h.bd,h.ldom⟩
 ·rcases dY c l e with ⟨rfl,_⟩ | ⟨_,e⟩
  ·exact hb
  ·exact h.dom c l e
 ·rcases dY c l e with ⟨hc,hl⟩ | ⟨hc,e2⟩ <;> rcases dY c' l' e' with ⟨hc',hl'⟩ | ⟨hc',e2'⟩
  ·rw [hc,hc']
  ·have:=h.real c' l' e2';rw [hl] at hbl;simp at hbl;omega
  ·have:=h.real c l e2;rw [hl'] at hbl;simp at hbl;omega
  ·exact h.inj c c' l l' e2 e2' hbl hs hs'
 ·rcases dY c l e with ⟨rfl,rfl⟩ | ⟨_,e⟩
  ·rw [hm] at hc;obtain rfl:=Af hc;have h1:=hv.1;refine ⟨rfl,by simp only;omega,(fun A e=>by cases e),vs,el,by simp,by simp,fun i hi=> ?_⟩;have h2:i<vs.size:=by simp only at hi;omega
   exact ⟨vs[i],by simp [Bj h2],(hv.2 i hi h2).mono hle⟩
  ·refine (h.blk c l ab e hc).world hle ?_;have:=h.real c l e;simp [Bp,A7 this]
 ·have hk:=h.old k o e;have:k<w.heap.size:=(AJ.1 hk).1;simp only [Bp,A7 this,Cr];exact hk
 ·intro hs;rcases dY c l e with ⟨rfl,rfl⟩ | ⟨_,e⟩
  ·exact h.hold _ (Ar _)
  ·exact h.sep c l e hs
 ·rcases dY c l e with ⟨rfl,rfl⟩ | ⟨_,e⟩
  ·simp
  ·have:=h.real c l e;simp;omega
structure Reg (S:Specs) (z:Nat) (P:Program) (ops:Array Oper) (cx:Ctx) (st:St) (f:Nat→St):Prop where
 chk:v9s z ops
 f0:f 0=st
 hcx:cx.floor≤st.next
 ob: ∀k,k≤ops.size→(f k).ob =true
 step: ∀(k:Nat) (h:k<(Yk ops).length),u5o S z P ops cx (z5o ops (Yk ops)[k],ops.getD (Yk ops)[k] default) (f k) (f (k+1))
 foot: ∀(q k:Nat) (hq:q<k) (h:k<(Yk ops).length),x8h ops (z4o S ((Yk ops)[k],z5o ops (Yk ops)[k],ops.getD (Yk ops)[k] default) (f k).eval) (z4o S ((Yk ops)[q],z5o ops (Yk ops)[q],ops.getD (Yk ops)[q] default) (f q).eval)∨
  lateF z ops ((Yk ops)[k],z5o ops (Yk ops)[k],ops.getD (Yk ops)[k] default) (f k).eval (f k).mem (z4o S ((Yk ops)[q],z5o ops (Yk ops)[q],ops.getD (Yk ops)[q] default) (f q).eval)=true
variable {Sp:Specs} {z:Nat} {ops:Array Oper} {cx:Ctx} {st:St} {f:Nat→St}
def at_ (ops:Array Oper) (k:Nat):Nat:=(Yk ops).getD k ops.size
theorem u5l {k:Nat} (h:k<ops.size):at_ ops k<ops.size:=by
 have hl:k<(Yk ops).length :=by rw [Xw];exact h
 have:at_ ops k=(Yk ops)[k]:=by simp [at_,hl]
 rw [this];exact (y0h _).1 (AM hl)
theorem z2h {k1 k2:Nat} (h:k1<k2) (h2:k2<ops.size):Ord ops (at_ ops k1) (at_ ops k2):=by
 have hl2:k2<(Yk ops).length :=by rw [Xw];exact h2
 have hl1:k1<(Yk ops).length :=by omega
 have:=x4j h hl2
 simpa [at_,hl1,hl2] using this
theorem j8k {i:Nat} (h:i<ops.size): ∃k,k<ops.size∧at_ ops k=i:=by obtain ⟨k,hk,e⟩:=AS ((y0h (ops:=ops) i).2 h);exact ⟨k,by rw [Xw] at hk;exact hk,by simp [at_,hk,e]⟩
theorem Reg.step' (g:Reg Sp z P ops cx st f) {k:Nat} (h:k<ops.size): ∃o,ops[at_ ops k]? =some o∧u5o Sp z P ops cx (z5o ops (at_ ops k),o) (f k) (f (k+1)):=by
 have hl:k<(Yk ops).length :=by rw [Xw];exact h
 have e:at_ ops k=(Yk ops)[k]:=by simp [at_,hl]
 have hlt:=u5l h;refine ⟨ops[at_ ops k],by simp [hlt],?_⟩;have:=g.step k hl;rw [←e] at this;have hd:ops.getD (at_ ops k) default=ops[at_ ops k]:=by simp [hlt]
 rw [hd] at this;exact this
theorem Reg.foot' (g:Reg Sp z P ops cx st f) {q k:Nat} (hq:q<k) (h:k<ops.size) {o x:Oper} (ho:ops[at_ ops k]? =some o) (hx:ops[at_ ops q]? =some x):
  x8h ops (at_ ops k,w1g o.op (f k).eval,wrC Sp o.op (f k).eval) (at_ ops q,w1g x.op (f q).eval,wrC Sp x.op (f q).eval)∨lateF z ops (at_ ops k,z5o ops (at_ ops k),o) (f k).eval (f k).mem (at_ ops q,w1g x.op (f q).eval,wrC Sp x.op (f q).eval)=true:=by
 have hl:k<(Yk ops).length :=by rw [Xw];exact h
 have hl2:q<(Yk ops).length :=by omega
 have e:at_ ops k=(Yk ops)[k]:=by simp [at_,hl]
 have e2:at_ ops q=(Yk ops)[q]:=by simp [at_,hl2]
 have:=g.foot q k hq hl;rw [←e,←e2] at this;have hd:ops.getD (at_ ops k) default=o:=by simp [ho]
 have hd2:ops.getD (at_ ops q) default=x:=by simp [hx]
 rw [hd,hd2] at this;exact this
theorem Reg.next_le (g:Reg Sp z P ops cx st f): ∀{a b:Nat},a≤b→b≤ops.size→(f a).next ≤(f b).next :=by
 intro a b hab hb
 induction b with
 | zero => have:a=0:=by omega
           subst this;exact Ar _
 | succ b ih=>
  by_cases e:a=b+1
  ·subst e;exact Ar _
  ·obtain ⟨o,_,s⟩:=g.step' (k:=b) (by omega);exact AK (ih (by omega) (by omega)) s.inv.nxt
theorem Reg.bd (g:Reg Sp z P ops cx st f) (h0: ∀b,st.next≤b→Yn st.mem b=none): ∀{k:Nat},k≤ops.size→ ∀b,(f k).next ≤b→Yn (f k).mem b=none:=by
 intro k hk
 induction k with
 | zero=>rw [g.f0];exact h0
 | succ k ih=>obtain ⟨o,_,s⟩:=g.step' (k:=k) (by omega);exact s.inv.bd (ih (by omega))
theorem Reg.slot_stays (g:Reg Sp z P ops cx st f) {t:Tmp}: ∀{a b:Nat},a≤b→b≤ops.size→(∀k o,a≤k→k<b→ops[at_ ops k]? =some o→o.dst≠some t)→(f b).tmp t=(f a).tmp t:=by
 intro a b hab hb hno
 induction b with
 | zero => have:a=0:=by omega
           subst this;rfl
 | succ b ih=>
  by_cases e:a=b+1
  ·subst e;rfl
  ·obtain ⟨o,ho,s⟩:=g.step' (k:=b) (by omega);rw [s.other (g.ob _ hb) t (hno b o (by omega) (by omega) ho)];exact ih (by omega) (by omega) fun k o h1 h2=>hno k o h1 (by omega)
def Qo (z:Nat) (o:Oper):Prop:=Xj z o.op=.chain ∨Xj z o.op=.call
def w1n (z:Nat) (o:Oper):Prop:=Xj z o.op=.pure ∨Xj z o.op=.lit
def z9v (z:Nat) (o:Oper):Prop:=Xj z o.op=.alloc ∨Xj z o.op=.birth
theorem w2i (z:Nat) (o:Oper):w1n z o∨Xj z o.op=.read ∨z9v z o∨Qo z o:=by unfold Qo w1n z9v;cases Xj z o.op <;> simp
theorem Reg.mem_stays (g:Reg Sp z P ops cx st f): ∀{a b:Nat},a≤b→b≤ops.size→(∀k o,a≤k→k<b→ops[at_ ops k]? =some o→w1n z o∨Xj z o.op=.read)→(f b).mem =(f a).mem ∧(f b).next =(f a).next :=by
 intro a b hab hb hno
 induction b with
 | zero => have:a=0:=by omega
           subst this;exact ⟨rfl,rfl⟩
 | succ b ih=>
  by_cases e:a=b+1
  ·subst e;exact ⟨rfl,rfl⟩
  ·obtain ⟨o,ho,s⟩:=g.step' (k:=b) (by omega);obtain ⟨e1,e2⟩:=s.stay (by rcases hno b o (by omega) (by omega) ho with (k | k) | k <;> simp [k]);obtain ⟨e3,e4⟩:=ih (by omega) (by omega) fun k o h1 h2=>hno k o h1 (by omega);exact ⟨e1.trans e3,e2.trans e4⟩
theorem Reg.blk_stays (g:Reg Sp z P ops cx st f) {x:Nat}: ∀{a b:Nat},a≤b→b≤ops.size→x<(f a).next →
  (∀k o,a≤k→k<b→ops[at_ ops k]? =some o→w1n z o∨Xj z o.op=.read ∨(Xj z o.op=.call ∧z5o ops (at_ ops k)=true∧wrC Sp o.op (f k).eval ≠some x)∨(Xj z o.op=.chain ∧x5h o.op (f k).eval ≠some x)∨z9v z o)→Yn (f b).mem x=Yn (f a).mem x:=by
 intro a b hab hb hx hno
 induction b with
 | zero => have:a=0:=by omega
           subst this;rfl
 | succ b ih=>
  by_cases e:a=b+1
  ·subst e;rfl
  ·obtain ⟨o,ho,s⟩:=g.step' (k:=b) (by omega);have ih:=ih (by omega) (by omega) fun k o h1 h2=>hno k o h1 (by omega);rw [←ih];rcases hno b o (by omega) (by omega) ho with h1 | h1 | ⟨h1,h2,h3⟩ | ⟨h1,h2⟩ | h1
   ·rw [(s.stay (by rcases h1 with k | k <;> simp [k])).1]
   ·rw [(s.stay (.inr (.inl h1))).1]
   ·exact s.lift (g.ob _ hb) h2 h1 x (Ba hx (g.next_le (by omega) (by omega))) h3
   ·exact s.foot (g.ob _ hb) h1 x (Ba hx (g.next_le (by omega) (by omega))) h2
   ·obtain ⟨cells,ty,e1,_,_⟩:=s.fresh (g.ob _ hb) h1 (g.chk.guard _ o ho h1);have:=Ba hx (g.next_le (a:=a) (b:=b) (by omega) (by omega));rw [e1,Zw _ _ (by omega)]
structure Inv (z:Nat) (P:Program) (D:List Deferred) (ops:Array Oper) (cx:Ctx) (st:St) (f:Nat→St) (ρ0:Rho) (w0:World) (S:Nat→Bool) (p:Nat) (ρ:Rho) (a:Act) (w:World):Prop where
 closed:y0t ops S
 defers:a.defers=D
 tsz:a.tmps.size=cx.n
 done: ∀k o d,k<ops.size→ops[at_ ops k]? =some o→S (at_ ops k)=true→o.dst=some d→Yw ρ ((f (k+1)).tmp d) (a.tmps.getD d undef)
 undone: ∀t,(∀i o,ops[i]? =some o→S i=true→o.dst≠some t)→Yw ρ (st.tmp t) (a.tmps.getD t undef)
 ple:p≤ops.size
 past: ∀k o,k<ops.size→ops[at_ ops k]? =some o→z9v z o→k<p
 chain: ∀k o,k<ops.size→ops[at_ ops k]? =some o→Qo z o→(S (at_ ops k)=true↔k<p)
 rel:Rel ρ (f p).mem (f p).next w
 ev:Ev ρ0 ρ cx.floor st.mem st.next (f p).mem (f p).next w0 w
 late: ∀k q o x b ab,k<q→q<p→q<ops.size→ops[at_ ops k]? =some o→ops[at_ ops q]? =some x→S (at_ ops k)=false→Qo z x→z2m z ops (at_ ops k) (at_ ops q)=true→w3y x.op (f q).eval (f q).mem =some b→Yn (f q).mem b=some ab→Rel ρ (Wz .leaf b (some ab)) (f p).next w
 allocs: ∀k o,k<ops.size→ops[at_ ops k]? =some o→z9v z o→S (at_ ops k)=false→st.next≤(f k).next ∧(f k).next <(f p).next ∧ρ (f k).next =none∧Yn (f p).mem (f k).next =Yn (f (k+1)).mem (f k).next
theorem y7j {o:Oper} {t:Tmp} (h:Operand.tmp t∈o.op.operands):t∈o.looksAt ops:=by unfold Oper.looksAt;rw [AF];left;rw [List.mem_filterMap];exact ⟨.tmp t,A8.2 h,rfl⟩
theorem x3z {o:Oper} {d:Tmp} (h:Jk ops o=some d):d∈o.looksAt ops:=by
 unfold Oper.looksAt;rw [AF];right;unfold Jk at h;cases hg:o.guard with
 | none=>rw [hg] at h;cases h
 | some g=>obtain ⟨j,want⟩:=g;rw [hg] at h;simp only [Option.bind_some] at h;simp [h]
theorem w3z (g:Reg Sp z P ops cx st f) {i:Nat} {o:Oper} (ho:ops[i]? =some o) (hk:Xj z o.op=.alloc):o.looksAt ops=[]:=by
 unfold Oper.looksAt;rw [g.chk.guard i o ho (.inl hk)];rw [z3z] at hk;obtain ⟨dst,op,type,pos,after,guard⟩:=o;simp only at hk ⊢;cases op with
 | alloc t=>rfl
 | call c=>
  obtain ⟨callee,args,argTypes⟩:=c;cases callee with
  | builtin b=>cases b <;> cases hk
  | value f=>cases hk
  | invoke r m=>cases hk
 | _=>cases hk
section
variable {D:List Deferred} {ρ0:Rho} {w0:World} {S:Nat→Bool} {p:Nat} {ρ:Rho} {a:Act} {w:World}
theorem x4k (g:Reg Sp z P ops cx st f) {i j:Nat} {x y:Oper} {d:Tmp} (hi:ops[i]? =some x) (hj:ops[j]? =some y) (hx:x.dst=some d) (hy:y.dst=some d):i=j:=by
 rcases Bt i j with h | h | h
 ·exact absurd hy (g.chk.dst i j x y d h hi hj hx)
 ·exact h
 ·exact absurd hx (g.chk.dst j i y x d h hj hi hy)
theorem Inv.looks (g:Reg Sp z P ops cx st f) (I:Inv z P D ops cx st f ρ0 w0 S p ρ a w) {k:Nat} {o:Oper} (hk:k<ops.size) (ho:ops[at_ ops k]? =some o) (hns:S (at_ ops k)=false) (dZ:x5g S o) {t:Tmp} (ht:t∈o.looksAt ops):
  Yw ρ ((f k).tmp t) (a.tmps.getD t undef):=by
 by_cases hw: ∃i x,ops[i]? =some x∧S i=true∧x.dst=some t
 ·obtain ⟨i,x,hx,hs,hd⟩:=hw;have hil:i<ops.size:=(AJ.1 hx).1;obtain ⟨k',hk',rfl⟩:=j8k hil;have hne:k'≠k:=fun e=>by rw [e,hns] at hs;cases hs
  have hlt:k'<k:=by
   rcases Bm k' k with h | h
   ·exact h
   ·exfalso;have hkk:k<k':=(by omega);rcases Bt (at_ ops k) (at_ ops k') with hij | hij | hij
    ·rcases g.chk.pair _ _ _ _ hij ho hx with hf | ⟨hap,_⟩
     ·have:=hf S I.closed (fun e he hb=>I.closed _ _ hx hs e he hb);rw [hns] at this;cases this
     ·obtain ⟨_,_,h3⟩:=Oper.apart_spec hap;exact h3 t hd ht
    ·rw [hij,hs] at hns;cases hns
    ·rcases z2h hkk hk' with ⟨h1,_⟩ | ⟨_,h2⟩
     ·rw [w3z g ho ((Jj (z:=z) ho).1 h1)] at ht;cases ht
     ·omega
  have hst:(f k).tmp t=(f (k'+1)).tmp t:=g.slot_stays (by omega) (by omega) fun q y h1 h2 hy hyd=>by
   have:=x4k g hx hy hd hyd;have e:at_ ops k'=at_ ops q:=this;rcases z2h (ops:=ops) (k1:=k') (k2:=q) (by omega) (by omega) with ⟨h1,h2⟩ | ⟨_,h2⟩
   ·rw [e,h2] at h1;cases h1
   ·omega
  rw [hst];exact I.done k' x t hk' hx hs hd
 ·have hno: ∀i x,ops[i]? =some x→S i=true→x.dst≠some t:=fun i x hx hs hd=>hw ⟨i,x,hx,hs,hd⟩;have hst:(f k).tmp t=(f 0).tmp t:=g.slot_stays (AD _) (by omega) fun q y _ h2 hy hyd=>by
   have hqs:S (at_ ops q)=false:=by
    cases e:S (at_ ops q) with
    | false=>rfl
    | true=>exact absurd hyd (hno _ y hy e)
   rcases Bt (at_ ops q) (at_ ops k) with hij | hij | hij
   ·rcases g.chk.pair _ _ _ _ hij hy ho with hf | ⟨hap,_⟩
    ·have:=hf S I.closed dZ;rw [hqs] at this;cases this
    ·obtain ⟨h1,_,_⟩:=Oper.apart_spec hap;exact h1 t hyd ht
   ·rcases z2h (ops:=ops) h2 hk with ⟨h1,h3⟩ | ⟨_,h3⟩
    ·rw [hij,h3] at h1;cases h1
    ·omega
   ·rcases z2h (ops:=ops) h2 hk with ⟨h1,_⟩ | ⟨_,h3⟩
    ·have hap:=g.chk.alloc _ _ _ _ hij ho hy ((Jj (z:=z) hy).1 h1);obtain ⟨_,_,h3⟩:=Oper.apart_spec hap;exact h3 t hyd ht
    ·omega
  rw [hst,g.f0];exact I.undone t hno
theorem Inv.operands (g:Reg Sp z P ops cx st f) (I:Inv z P D ops cx st f ρ0 w0 S p ρ a w) {k:Nat} {o:Oper} (hk:k<ops.size) (ho:ops[at_ ops k]? =some o) (hns:S (at_ ops k)=false) (dZ:x5g S o):z0i ρ (f k).eval a.eval o.op:=by
 intro x hx;cases x with
 | tmp t=>exact I.looks g hk ho hns dZ (y7j hx)
 | const v=>exact v5x v
 | global g=>exact .undef _
 | func f=>exact .fn f [] #[] rfl fun i h1 _=>by simp at h1
theorem Inv.slots (g:Reg Sp z P ops cx st f) (I:Inv z P D ops cx st f ρ0 w0 S p ρ a w) {k:Nat} {o:Oper} (hk:k<ops.size) (ho:ops[at_ ops k]? =some o) (hns:S (at_ ops k)=false) {ρ':Rho} (hle:ρ.le ρ') {u:Value}
  (eC: ∀d,o.dst=some d→Yw ρ' ((f (k+1)).tmp d) u) {S':Nat→Bool} (hS: ∀i,S' i=(S i||i == at_ ops k)):
  (∀k' x d,k'<ops.size→ops[at_ ops k']? =some x→S' (at_ ops k')=true→x.dst=some d→Yw ρ' ((f (k'+1)).tmp d) ((a.put o.dst u).tmps.getD d undef))∧
  (∀t,(∀i x,ops[i]? =some x→S' i=true→x.dst≠some t)→Yw ρ' (st.tmp t) ((a.put o.dst u).tmps.getD t undef)):=by
 have other: ∀t,o.dst≠some t→(a.put o.dst u).tmps.getD t undef=a.tmps.getD t undef:=fun t ht=>by
  cases hd:o.dst with
  | none=>rfl
  | some d=>have hne:d≠t:=fun e=>ht (by rw [hd,e]);simp [Act.put,Array.getElem?_setIfInBounds_ne hne]
 obtain ⟨_,ho',s⟩:=g.step' hk;rw [ho] at ho';obtain rfl:=Af ho';refine ⟨fun k' x d hk' hx hs hd=> ?_,fun t hno=> ?_⟩
 ·by_cases hod:o.dst=some d
  ·have e:=x4k g ho hx hod hd;have hkk:k'=k:=by
    rcases Bt k' k with h | h | h
    ·rcases z2h (ops:=ops) h hk with ⟨h1,h3⟩ | ⟨_,h3⟩
     ·rw [←e,h3] at h1;cases h1
     ·omega
    ·exact h
    ·rcases z2h (ops:=ops) h hk' with ⟨h1,h3⟩ | ⟨_,h3⟩
     ·rw [e,h3] at h1;cases h1
     ·omega
   subst hkk;have hlt:d<a.tmps.size:=by rw [I.tsz];exact s.slot d hod
   have:(a.put o.dst u).tmps.getD d undef=u:=by simp [Act.put,hod,hlt]
   rw [this];exact eC d hod
  ·rw [other d hod];have hne:at_ ops k'≠at_ ops k:=fun e=>by rw [e,ho] at hx;obtain rfl:=Af hx;exact hod hd
   have hs':S (at_ ops k')=true:=by
    rw [hS] at hs
    simpa [hne] using hs
   exact (I.done k' x d hk' hx hs' hd).mono hle
 ·have hod:o.dst≠some t:=hno _ o ho (by rw [hS];simp);rw [other t hod];exact (I.undone t fun i x hx hs=>hno i x hx (by rw [hS,hs];rfl)).mono hle
theorem Inv.closes (I:Inv z P D ops cx st f ρ0 w0 S p ρ a w) {i:Nat} {o:Oper} (ho:ops[i]? =some o) (dZ:x5g S o) {S':Nat→Bool} (hS: ∀j,S' j=(S j||j == i)):y0t ops S':=by
 intro j x hx hs e he hb;rw [hS] at hs ⊢;by_cases hj:j=i
 ·subst hj;rw [ho] at hx;obtain rfl:=Af hx;rw [dZ e he hb];rfl
 ·have:S j=true:=by simpa [hj] using hs
  rw [I.closed j x hx this e he hb];rfl
theorem v0n {i:Nat} {l:Bool} {o:Oper} {ev:Operand→AVal} {mem:Mem} {y:Foot} (h:Xj z o.op=.read):lateF z ops (i,l,o) ev mem y=false:=by
 have hk:w3y o.op ev mem=none:=by
  unfold w3y;split
  ·rename_i e;rw [e] at h;cases h
  ·rfl
 unfold lateF;split
 ·rw [hk]
 ·rfl
theorem v0m {i j b:Nat} {l:Bool} {x:Oper} {ev:Operand→AVal} {mem:Mem} {wr:Option Nat} (h:lateF z ops (i,l,x) ev mem (j,some b,wr)=true):z2m z ops j i=true∧w3y x.op ev mem=some b:=by
 unfold lateF at h;split at h
 ·rename_i j' b' e;simp only [Ad,Ae] at e;obtain ⟨rfl,rfl,rfl⟩:=e;split at h
  ·rename_i b0 hb0;simp only [Ac] at h;obtain rfl:=Ak h.1;exact ⟨h.2,hb0⟩
  ·cases h
 ·cases h
theorem Inv.between (g:Reg Sp z P ops cx st f) (I:Inv z P D ops cx st f ρ0 w0 S p ρ a w) {k:Nat} {o:Oper} (hk:k<ops.size) (ho:ops[at_ ops k]? =some o) (hns:S (at_ ops k)=false) (dZ:x5g S o) (fL:Xj z o.op=.read) {b:Nat} (hb:w1g o.op (f k).eval =some b):
  (∀q x,p≤q→q<k→ops[at_ ops q]? =some x→w1n z x∨Xj z x.op=.read ∨(Xj z x.op=.call ∧z5o ops (at_ ops q)=true∧wrC Sp x.op (f q).eval ≠some b)∨(Xj z x.op=.chain ∧x5h x.op (f q).eval ≠some b)∨z9v z x)∧
  (∀q x,k≤q→q<p→ops[at_ ops q]? =some x→w1n z x∨Xj z x.op=.read ∨(Xj z x.op=.call ∧z5o ops (at_ ops q)=true∧wrC Sp x.op (f q).eval ≠some b)∨(Xj z x.op=.chain ∧x5h x.op (f q).eval ≠some b)∨z9v z x∨(Qo z x∧z2m z ops (at_ ops k) (at_ ops q)=true∧w3y x.op (f q).eval (f q).mem =some b)):=by
 have nal:isAlloc ops (at_ ops k)=false:=by
  cases e:isAlloc ops (at_ ops k) with
  | false=>rfl
  | true=>have:=(Jj (z:=z) ho).1 e;rw [fL] at this;cases this
 constructor
 ·intro q x h1 h2 hx;rcases w2i z x with h | h | h | h
  ·exact .inl h
  ·exact .inr (.inl h)
  ·have:=I.past q x (by omega) hx h;omega
  ·have hqs:S (at_ ops q)=false:=by
    cases e:S (at_ ops q) with
    | false=>rfl
    | true=>have:=(I.chain q x (by omega) hx h).1 e;omega
   have hlt:at_ ops q<at_ ops k:=by
    rcases z2h (ops:=ops) h2 hk with ⟨h3,_⟩ | ⟨_,h3⟩
    ·have:=I.past q x (by omega) hx (.inl ((Jj (z:=z) hx).1 h3));omega
    ·exact h3
   rcases g.chk.pair _ _ _ _ hlt hx ho with hf | ⟨_,hkd,hl,_⟩
   ·have:=hf S I.closed dZ;rw [hqs] at this;cases this
   ·have no:wrC Sp x.op (f q).eval ≠some b:=fun hw=>by
     have:=(g.foot' h2 hk ho hx).resolve_right (fun hl=>by
      rw [v0n fL] at hl;cases hl) (.inl (by rw [hb,hw];exact B3 b))
     unfold ordered at this;simp only [Br] at this;rcases this with this | this
     ·have:=(g.chk.bits _ _ hx _ this).1;omega
     ·have:=(g.chk.bits _ _ ho _ this).2 S I.closed dZ;rw [hqs] at this;cases this
    rcases h with h | h
    ·exact .inr (.inr (.inr (.inl ⟨h,by rw [←x5l ((x4d (by intro e;cases e) (by intro e;cases e)).1 h).1];exact no⟩)))
    ·exact .inr (.inr (.inl ⟨h,hl fL,no⟩))
 ·intro q x h1 h2 hx;have hp:=I.ple;rcases w2i z x with h | h | h | h
  ·exact .inl h
  ·exact .inr (.inl h)
  ·exact .inr (.inr (.inr (.inr (.inl h))))
  ·have hqs:S (at_ ops q)=true:=(I.chain q x (by omega) hx h).2 h2;have hne:q≠k:=fun e=>by rw [e,hns] at hqs;cases hqs
   have hlt:at_ ops k<at_ ops q:=by
    rcases z2h (ops:=ops) (k1:=k) (k2:=q) (by omega) (by omega) with ⟨h3,_⟩ | ⟨_,h3⟩
    ·rw [nal] at h3;cases h3
    ·exact h3
   rcases g.chk.pair _ _ _ _ hlt ho hx with hf | ⟨_,hkd,_,hl⟩
   ·have:=hf S I.closed fun e he hb=>I.closed _ _ hx hqs e he hb;rw [hns] at this;cases this
   ·rcases g.foot' (q:=k) (k:=q) (by omega) (by omega) hx ho with hfo | hla
    rotate_left
    ·rw [hb] at hla;exact .inr (.inr (.inr (.inr (.inr ⟨h,v0m hla⟩))))
    have no:wrC Sp x.op (f q).eval ≠some b:=fun hw=>by
     have:=hfo (.inr (by rw [hb,hw];exact B3 b));unfold ordered at this;simp only [Br] at this;rcases this with this | this
     ·have:=(g.chk.bits _ _ ho _ this).1;omega
     ·have:=(g.chk.bits _ _ hx _ this).2 S I.closed fun e he hb=>I.closed _ _ hx hqs e he hb;rw [hns] at this;cases this
    rcases h with h | h
    ·exact .inr (.inr (.inr (.inl ⟨h,by rw [←x5l ((x4d (by intro e;cases e) (by intro e;cases e)).1 h).1];exact no⟩)))
    ·exact .inr (.inr (.inl ⟨h,hl fL,no⟩))
theorem Inv.next_chain (g:Reg Sp z P ops cx st f) (I:Inv z P D ops cx st f ρ0 w0 S p ρ a w) {k:Nat} {o:Oper} (hk:k<ops.size) (ho:ops[at_ ops k]? =some o) (hns:S (at_ ops k)=false) (dZ:x5g S o) (hch:Qo z o):
  p≤k∧(∀q x,q<ops.size→ops[at_ ops q]? =some x→Qo z x→(S (at_ ops q)=true↔q<k)):=by
 have nal:isAlloc ops (at_ ops k)=false:=by
  cases e:isAlloc ops (at_ ops k) with
  | false=>rfl
  | true=>have:=(Jj (z:=z) ho).1 e;rcases hch with h | h <;> rw [h] at this <;> cases this
 have key: ∀q x,q<ops.size→ops[at_ ops q]? =some x→Qo z x→(S (at_ ops q)=true↔q<k):=by
  intro q x hq hx hxc;have nalx:isAlloc ops (at_ ops q)=false:=by
   cases e:isAlloc ops (at_ ops q) with
   | false=>rfl
   | true=>have:=(Jj (z:=z) hx).1 e;rcases hxc with h | h <;> rw [h] at this <;> cases this
  have nok: ∀(x y:Oper),Qo z x→Qo z y→w2h (Xj z x.op) (Xj z y.op)=false:=by
   intro x y hx hy;rcases hx with h | h <;> rcases hy with h' | h' <;> rw [h,h'] <;> rfl
  constructor
  ·intro hs;rcases Bt q k with h | h | h
   ·exact h
   ·subst h;rw [hns] at hs;cases hs
   ·exfalso;have hlt:at_ ops k<at_ ops q:=by
     rcases z2h (ops:=ops) h hq with ⟨h3,_⟩ | ⟨_,h3⟩
     ·rw [nal] at h3;cases h3
     ·exact h3
    rcases g.chk.pair _ _ _ _ hlt ho hx with hf | ⟨_,hkd,_⟩
    ·have:=hf S I.closed fun e he hb=>I.closed _ _ hx hs e he hb;rw [hns] at this;cases this
    ·rw [nok o x hch hxc] at hkd;cases hkd
  ·intro h;have hlt:at_ ops q<at_ ops k:=by
    rcases z2h (ops:=ops) h hk with ⟨h3,_⟩ | ⟨_,h3⟩
    ·rw [nalx] at h3;cases h3
    ·exact h3
   rcases g.chk.pair _ _ _ _ hlt hx ho with hf | ⟨_,hkd,_⟩
   ·exact hf S I.closed dZ
   ·rw [nok x o hxc hch] at hkd;cases hkd
 refine ⟨?_,key⟩;rcases Bm k p with h | h
 ·have:=(I.chain k o hk ho hch).2 h;rw [hns] at this;cases this
 ·exact h
end
end
end Go.Am
end
