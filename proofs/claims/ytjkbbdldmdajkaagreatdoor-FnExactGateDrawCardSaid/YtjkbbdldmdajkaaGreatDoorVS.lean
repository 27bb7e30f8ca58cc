/- The evaluator of operations, calls with them; a region in the text's order. No condition. -/
import Derived.Test.YtjkbbdldmdajkaaGreatDoorWN
import Derived.Laws.BytesString
set_option linter.unusedSimpArgs false
set_option linter.unusedVariables false
namespace Go.Proofs.YtjkbbdldmdajkaaGreatDoor.c5
open Go Go.RowKit
variable {w w' ss:World} {F F' zT O O' uo:Nat→Prop} {μ aZ jE:Nat→Nat} {K K' C9:Nat→Prop} {ft bX:Nat→Nat→Prop} {P:Program} {R:Type}
theorem Ts {o:Oper} {s:fG} {t et:TypeId} {n:Nat} {ti:TypeInfo} {ps:List (Nat×Operand)} {q:List (Nat×List AV)} {zs r:List AV} (ho:o.op=.build t ⟨ps⟩) (ht:P.underlying t=some (.array n et))
  (hi:P.info? et=some ti) (hz:zk P t=some zs) (hq:Eb s ps q) (hr:nJ (fun i=>some (i*ti.size,ti.size)) zs q=some r):dg P o s ⟨.agg r,[],[]⟩:=
 b7 fun {w F O μ K ft a} hs=>by
  obtain ⟨z,XH,rfl⟩:=D9 hz;obtain ⟨us,k1,k2⟩:=IA hs hq hr (EI z.cells.toList);have YB:Instr.fill (fun i=>some (i*ti.size,ti.size)) z.cells ((⟨ps⟩:Array (Nat×Operand)).map fun (i,x)=>(i,a.eval x)).toList=some us:=by
   simpa using k1
  refine ⟨.agg us,?_,.qO k2⟩;simp only [execOp,ho,Instr.build,Sem.run_bind,XH,Result.andThen_ok,ca ht,gr hi];rw [YB];simp
def Hk (P:Program) (s:bL) (t:TypeId) (ps:List (Nat×Operand)) (κ:cu→Option R):Option R:=
 match P.underlying t with
 | some (.array _ et)=>match Cw P t,P.info? et,He s ps with
  | some zs,some ti,some q=>match nJ (fun i=>some (i*ti.size,ti.size)) zs q with
   | some r=>κ ⟨.agg r,[],0⟩
   | none=>none
  | _,_,_=>none
 | _=>none
theorem OW {o:Oper} {s:bL} {κ:cu→Option R} {z:R} {t:TypeId} {ps:List (Nat×Operand)} (ho:o.op=.build t ⟨ps⟩) (hs:s.ok) (h:Hk P s t ps κ=some z):vh P o s κ z:=by
 unfold Hk at h;split at h
 ·rename_i n et ht;split at h
  ·rename_i zs ti q hz hi hq;split at h
   ·rename_i r hr;obtain ⟨z1,z2⟩:=pv hz s.H s.N;obtain ⟨p1,p2⟩:=AN hs hq;have hf:=AO (TA.av s.H) hr;have e:(q.map fun p=>(p.1,p.2.map (TA.av s.H)))=q.map fun p=>(p.1,di s.H p.2):=List.map_congr_left fun p _=>by rw [cW]
    rw [e] at hf;have lX:=Ts (P:=P) ho ht hi z1 p1 (r:=di s.H r) (by rw [cW,cW];exact hf);refine sj h (by simpa only [TA.av] using lX) ?_;simp only [TA.wf];refine cZ.2 fun a ha=>?_;rcases EN hr a ha with k | ⟨p,k1,k2⟩
    ·exact cZ.1 z2 a k
    ·exact cZ.1 (p2 p k1) a k2
   ·cases h
  ·cases h
 ·cases h
theorem Tt {o:Oper} {s:fG} {x y:Operand} {t et:TypeId} {n j:Nat} {k:IntKind} {ti:TypeInfo} {cs:List AV} {r:AV} (ho:o.op=.index t x y) (hx:dT s x (.agg cs)) (hy:dT s y (.int k j)) (ht:P.underlying t=some (.array n et)) (hi:P.info? et=some ti) (hj:j < n)
  (hr:D8 P et cs (j*ti.size)=some r):dg P o s ⟨r,[],[]⟩:=
 b7 fun {w F O μ K ft a} hs=>by
  obtain ⟨vs,hv,wJ⟩:=(hx hs).fH;obtain ⟨v,h1,h2⟩:=M1 (w:=w) hr wJ;refine ⟨v,?_,h2⟩;have dY:(0:Int)≤(j:Int)∧(j:Int) < (n:Int):=by omega
  simp only [execOp,ho,hv,(hy hs).c8,Instr.index,asIntOf,Sem.run_bind,Sem.run_pure,Result.andThen_ok,ca ht,if_pos dY,gr hi,Int.toNat_natCast,h1]
def Hl (P:Program) (t:TypeId) (x y:TA) (κ:cu→Option R):Option R:=
 match x,y,P.underlying t with
 | .agg l,.d ⟨.int _,i⟩,some (.array n et)=>match P.info? et with
  | some ti=>Nn i n fun j=>match S5 P et l (j*ti.size) with
   | some r=>κ ⟨r,[],0⟩
   | none=>none
  | none=>none
 | _,_,_=>none
theorem aaf {t:TypeId} {H:List (Nat×aX)} {N off:Nat} {l:List TA} {r:TA} (h:S5 P t l off=some r) (hw:hU H N l):∃ rv,D8 P t (di H l) off=some rv∧g8 rv (r.av H)∧r.wf H N:=by
 unfold S5 at h;split at h
 ·rename_i d i hd hi;split at h
  ·rename_i ha;cases h;refine ⟨.agg (((di H l).drop off).take i.size),by simp only [D8,hd,hi,ha,if_true],?_,?_⟩
   ·simp only [TA.av,cW,List.map_take,List.map_drop];exact g8.refl _
   ·simp only [TA.wf];exact cZ.2 fun a ha=>cZ.1 hw a (List.mem_of_mem_drop (List.mem_of_mem_take ha))
  ·rename_i ha;split at h
   ·rename_i dY;cases h;have ZH:off < l.length:=Nat.le_of_ble_eq_true (by simpa [Nat.blt] using dY);refine ⟨(di H l).getD off .top,by simp only [D8,hd,hi,if_neg ha];rw [if_pos (by rw [bC];exact dY)],?_,BT hw _⟩;rw [dq _ _ _ ZH];exact g8.refl _
   ·cases h
 ·cases h
theorem OX {o:Oper} {s:bL} {κ:cu→Option R} {z:R} {x y:Operand} {t:TypeId} (ho:o.op=.index t x y) (hs:s.ok) (h:Hl P t (s.val x) (s.val y) κ=some z):vh P o s κ z:=by
 unfold Hl at h;split at h
 ·rename_i l k i n et hx hy ht;split at h
  ·rename_i ti hi;obtain ⟨j,hj,e,h2⟩:=KV h;subst e;split at h2
   ·rename_i r hr;have hw:=fS hs x;rw [hx] at hw;simp only [TA.wf] at hw;obtain ⟨rv,r1,r2,r3⟩:=aaf hr hw;have h1:dT s.st x ((TA.agg l).av s.H):=bY hx;have h3:dT s.st y (.int k j):=bY hy;simp only [TA.av] at h1;exact kh h2 (Tt ho h1 h3 ht hi hj r1) r2 r3
   ·cases h2
  ·cases h
 ·cases h
def CB (xs:List Int):List UInt8:=xs.map fun n=>UInt8.ofNat n.toNat
theorem X9 {m:Nat} {g:Nat→Nat→Value} {xs:List Int} (hm:m=xs.length) (h:∀ i,i < m→g i 0=.int .u8 (xs.getD i 0)):flat 1 m g=xs.map fun n=>.int .u8 n:=by
 apply List.ext_getElem
 ·simp [fR,hm]
 ·intro i h1 h2;have hi:i < m:=by simpa [fR] using h1
  have:=h i hi;simp only [flat,List.getElem_map,List.getElem_range,Nat.div_one,Nat.mod_one,this];simp [List.getD,show i < xs.length by omega]
theorem PX:∀ (xs:List Int) (l:List UInt8),xs.foldl (fun (r:ByteArray) n=>r.push (UInt8.ofNat n.toNat)) ⟨⟨l⟩⟩=⟨⟨l++CB xs⟩⟩
 | [],l=>by simp [CB]
 | n::r,l=>by
  rw [List.foldl_cons];have e:(ByteArray.push ⟨⟨l⟩⟩ (UInt8.ofNat n.toNat))=⟨⟨l++[UInt8.ofNat n.toNat]⟩⟩:=by
   simp [ByteArray.push]
  rw [e,PX r];simp [CB]
theorem ab0 {o:Oper} {s:fG} {x:Operand} {t u et:TypeId} {xs:List Int} (ho:o.op=.convert t u x) (ht:P.underlying t=some (.slice et)) (he:P.underlying et=some (.int .u8)) (hu:P.underlying u=some .string)
  {f:Nat→Nat→AV} (hf:∀ i,f i 0=.int .u8 (xs.getD i 0)) (hx:Src P s x 1 xs.length f []):dg P o s ⟨.str (CB xs),[],[]⟩:=
 b7 fun {w F O μ K ft a} hs=>by
  obtain ⟨A,cap,g,S,h1,h2,h3,_,_⟩:=hx w F O μ K ft a hs;have hg:∀ i,i < xs.length→g i 0=.int .u8 (xs.getD i 0):=fun i hi=>by
   have:=(h3 i 0 hi (by omega)).1;rw [hf] at this;cases this with
   | Ip _ _ _ h _=>exact h.c8
  have hfl:=X9 rfl hg;refine ⟨.string ⟨⟨CB xs⟩⟩,?_,.str _⟩;have hb:(Conv.bytesToString (.slice A xs.length cap)).run P w=.ok (.string ⟨⟨CB xs⟩⟩) w:=by
   cases A with
   | none=>
    have h4:=h2 w rfl;simp only [Builtin.firstCells,Sem.run_pure] at h4;have h5:flat 1 xs.length g=[]:=by injection h4 with h6 _;injection h6 with h7;exact h7.symm
    rw [hfl] at h5;have h6:xs=[]:=by simpa using h5
    subst h6;simp [Conv.bytesToString,CB];rfl
   | some A=>
    have h4:=h2 w rfl;simp only [Builtin.firstCells,Nat.mul_one] at h4;rw [hfl] at h4;rw [run_bytesToString w A xs.length cap xs h4];have:=PX xs [];simp only [List.nil_append] at this;rw [← this];rfl
  simp only [execOp,ho,h1,convert,Sem.run_bind,ca ht,ca hu,ca he,Result.andThen_ok,hb];rfl
def Vi (P:Program) (s:bL) (t u:TypeId) (x:TA) (κ:cu→Option R):Option R:=
 match P.underlying t,P.underlying u with
 | some (.slice et),some .string=>match P.underlying et with
  | some (.int .u8)=>match ZX s.H (.int .u8) x with
   | some xs=>κ ⟨.d ⟨.str,CB xs⟩,[],0⟩
   | none=>none
  | _=>none
 | _,_=>none
theorem X_ {o:Oper} {s:bL} {κ:cu→Option R} {z:R} {x:Operand} {t u:TypeId} (ho:o.op=.convert t u x) (h:Vi P s t u (s.val x) κ=some z):vh P o s κ z:=by
 unfold Vi at h;split at h
 ·rename_i et ht hu;split at h
  ·rename_i he;split at h
   ·rename_i xs hx;exact nM h (ab0 ho ht he hu (fun _=>rfl) (Rg hx (by decide)))
   ·cases h
  ·cases h
 ·cases h
end Go.Proofs.YtjkbbdldmdajkaaGreatDoor.c5
namespace Go.Proofs.YtjkbbdldmdajkaaGreatDoor.c5
open Go Go.RowKit
variable {w w' ss:World} {F F' zT O O' uo:Nat→Prop} {μ aZ jE:Nat→Nat} {K K' C9:Nat→Prop} {ft bX:Nat→Nat→Prop} {P:Program} {R:Type}
theorem Wx (H:List (Nat×aX)) (l m:List TA):di H (l++m)=di H l++di H m:=by simp [cW]
theorem Rq {o:Oper} {s:bL} {x:Operand} {f:FuncId} {first cap:List TA} {args:List Operand} {ts:Array TypeId} (ho:o.op=.call ⟨.value x,⟨args⟩,ts⟩) (hx:s.val x=.fn (.func f) first cap):
  Rp P o s f ((first++args.map s.val)++cap):=by
 intro hc w F O μ K ft a hs;have hv:=bY hx hs;simp only [TA.av] at hv;obtain ⟨vs,us,Ea,h1,h2⟩:=hv.G7;refine ⟨(vs++args.map a.eval)++us,?_,by rw [Wx,Wx];exact (h1.app (AP s args hs)).app h2⟩;have:=hc ⟨(vs++args.map a.eval)++us⟩ w;simp only [execOp,ho,resolve,Ea,Deferred.ofValue,Sem.run_bind,Sem.run_pure,Result.andThen_ok,invoke];simpa using this
def gF (P:Program) (t:TypeId) (name:String) (f:FuncId):Prop:=∀ (v:Value) (w:World),(method (P.types.size+Made.depth) t v name).run P w=.ok (f,v) w
theorem OY {o:Oper} {s:bL} {x:Operand} {name:String} {f:FuncId} {t:TypeId} {b:TA} {args:List Operand} {ts:Array TypeId} (ho:o.op=.call ⟨.invoke x name,⟨args⟩,ts⟩) (hx:s.val x=.oR t b) (hm:gF P t name f):
  Rp P o s f (b::args.map s.val):=by
 intro hc w F O μ K ft a hs;have hv:=bY hx hs;simp only [TA.av] at hv;obtain ⟨u,Ea,h1⟩:=hv.BH;refine ⟨u::args.map a.eval,?_,by simp only [di];exact .cons h1 (AP s args hs)⟩;have:=hc ⟨u::args.map a.eval⟩ w;have e:List.take args.length (args.map a.eval)=args.map a.eval:=List.take_of_length_le (by simp);simp [execOp,ho,resolve,Ea,invoke,callMethod,hm u w,e];simpa using this
def fits (c:CT) (s:bL) (as:List TA):Bool:=
 match BY s.H c.args as ⟨[],[]⟩ with
 | some (e1,_)=>(Ei s.H c.cE 0 e1).isSome
 | none=>false
def IS:List CT→FuncId→bL→List TA→(cu→Option R)→(cu→Option R)→Option R
 | [],_,_,_,_,_=>none
 | c::r,f,s,as,κ,wL=>match Nat.beq c.f f&&fits c s as with
  | true=>J9 c s as κ wL
  | false=>IS r f s as κ wL
theorem Hm {f:FuncId} {o:Oper} {s:bL} {as:List TA} {κ wL:cu→Option R} {z:R} (ho:Rp P o s f as) (hs:s.ok):∀ {bJ:List CT},(∀ c,c∈bJ→aV P c)→IS bJ f s as κ wL=some z→vh P o s κ z∨EvP P o s wL z
 | [],_,h=>by cases h
 | c::r,hc,h=>by
  simp only [IS] at h;split at h
  ·rename_i hb;simp only [Bool.and_eq_true] at hb;exact X8 (hc c (by simp)) (Nat.eq_of_beq_eq_true hb.1▸ho) hs h
  ·exact Hm ho hs (fun c hm=>hc c (by simp [hm])) h
def NJ:List (TypeId×String×FuncId)→TypeId→String→Option FuncId
 | [],_,_=>none
 | (t,n,f)::r,u,m=>match Nat.beq t u&&(if n=m then true else false) with
  | true=>some f
  | false=>NJ r u m
theorem NK:∀ {l:List (TypeId×String×FuncId)} {t:TypeId} {n:String} {f:FuncId},NJ l t n=some f→(t,n,f)∈l
 | [],_,_,_,h=>by cases h
 | (t,n,f)::r,u,m,g,h=>by
  simp only [NJ] at h;split at h
  ·rename_i hb;simp only [Bool.and_eq_true] at hb;cases h;have h2:n=m:=by
    have:=hb.2;split at this
    ·assumption
    ·cases this
   rw [Nat.eq_of_beq_eq_true hb.1,h2];simp
  ·exact List.mem_cons_of_mem _ (NK h)
theorem ab1 {o:Oper} {s:fG} {x:Operand} {t:TypeId} {a:AV} {l:List AV} (ho:o.op=.box t x) (hx:dT s x a) (hl:BN a l) (hc:∀ b,b∈l→PI b):dg P o s ⟨.fp l.length (fun j=>l.getD j .top) 0,[],[]⟩:=by
 intro w F O μ K ft act hs _ Kn Q hk;have hv:=(hl (hx hs)).Ip hc
 let ob:Obj:=.cells (act.eval x).cells t (0,0)
 have hp:=JV w ob;have hr:=hs.hr;have pq:∀ b,F b→(w.alloc ob).heap[b]?=w.heap[b]?:=fun b hb=>hp.other b (hr.wf b hb) (Nat.ne_of_lt (hr.wf b hb));unfold Oper.wp;have kT:(execOp act.eval o).run P w=.ok (.value (.pointer (some ⟨w.heap.size,0,none⟩))) (w.alloc ob):=by
  simp [execOp,ho,Instr.box,newVar,newRow,ob]
 rw [kT,Oper.upon_value];refine hk _ _ (fun b=>F b∨b=w.heap.size) O μ ft ?_ ?_ ?_<;>try simp only [jm,Hp.QT]
 ·refine .fp _ _ _ w.heap.size 0 (fun j=>(act.eval x).cells.toList.getD j undef) (.inr rfl) (fun j hj=>?_) fun j hj=>?_
  ·have h1:j < (act.eval x).cells.size:=by have:=hv.1;simp at this;omega
   have h2:(w.alloc ob).heap[w.heap.size]?=some ob:=D4 w ob;unfold World.cell?;simp only;rw [h2];simp [ob,h1]
  ·have:=hv.2 j (by omega);rw [Nat.zero_add];exact this.mono pq (fun _ h=>.inl h) (fun _ h=>h.elim) (fun _ h=>h) fun _ h=>h.elim
 ·refine { lt:=fun id bZ=>Nat.lt_of_lt_of_le (hr.lt id bZ) hp.size,known:=hr.known,du:=fun id b hb gC=>?_,self:=hr.self,own:=hr.own,dj:=hr.dj,yl:=?_,wf:=?_,qS:=fun b hb=>Nat.lt_of_lt_of_le (hr.qS b hb) hp.size,pos:=hr.pos.mono hp.size (fun _ h=>.inl h) pq }
  ·obtain ⟨o0,ho0,hB⟩:=hr.du id b hb gC;have bZ:=hr.known id b hb;have oV:∀ y,y < w.heap.size→(w.alloc ob).heap[y]?=w.heap[y]?:=fun y hy=>hp.other y hy (Nat.ne_of_lt hy);refine ⟨o0,by rw [oV _ (hr.lt id bZ)];exact ho0,hB.mono pq (fun _ h=>.inl h) (fun _ _=>rfl) (fun _ h=>h) (fun i hi=>hp.shape _ (hr.lt i hi)) fun y hy _=>oV y (hr.qS y (hr.own id ⟨b,hb,gC⟩ y hy))⟩
  ·rintro b hb (hF | hF)
   ·exact hr.yl b hb hF
   ·have:=hr.qS b hb;omega
  ·rintro b (hF | hF)
   ·exact Nat.lt_of_lt_of_le (hr.wf b hF) hp.size
   ·rw [hF];exact hp.lt
 ·refine { os:=hp.os,tape:=hp.tape,output:=hp.output,size:=hp.size,mu:=fun _ _=>rfl,zK:=fun _ h=>.inl h,shape:=hp.shape,same:=fun b hb _=>hp.other b hb (Nat.ne_of_lt hb),D0:=fun _ h=>.inl h,G6:=?_ }
  rintro b (hF | hF)
  ·exact .inl hF
  ·exact .inr (.inl (Nat.le_of_eq hF.symm))
def Vj (E:Env) (s:bL) (t:TypeId) (x:TA) (κ:cu→Option R):Option R:=
 match BV s.H x,Lw E.tc t with
 | some l,some q=>match si (FI q) l with
  | some ds=>match LL q ds with
   | some y=>κ ⟨.fp q y 0,[],0⟩
   | none=>none
  | none=>none
 | _,_=>none
theorem Ya {E:Env} {o:Oper} {s:bL} {κ:cu→Option R} {z:R} {x:Operand} {t:TypeId} (ho:o.op=.box t x) (hs:s.ok) (h:Vj E s t (s.val x) κ=some z):vh E.P o s κ z:=by
 unfold Vj at h;split at h
 ·rename_i l q hl hq;split at h
  ·rename_i ds sy;split at h
   ·rename_i y hy;obtain ⟨h1,h2⟩:=yf hl (fS hs x);obtain ⟨d1,d2,d3,d4⟩:=nK sy;have lX:=ab1 (P:=E.P) ho (gu s x) h1 (BX sy s.H).1;refine kh h lX ?_ (by simp only [TA.wf]);simp only [TA.av];have hlen:(di s.H l).length=ff q:=by
     rw [bC,← d1,← fa q y,eU hy]
    rw [hlen];intro w F μ K v hv;have sg:∀ j,(r9 q y).getD j .top=(ds.map cL).getD j .top:=fun j=>by rw [← fw,eU hy]
    cases hv with
    | fp _ _ _ b o' u hF hu hv=>
     refine .fp _ _ _ b o' u hF hu fun j hj=>?_;have:=hv j hj;rw [sg,Nat.zero_add];rw [Nat.zero_add] at hj;simp only [Nat.zero_add] at this;have OG:j < l.length:=by rw [bC] at hlen;omega
     rw [dq _ _ _ OG] at this;exact d4 s.H j OG this
   ·cases h
  ·cases h
 ·cases h
theorem Yb {o:Oper} {s:fG} {t:TypeId} {N bB:Nat} {e:Nat→Nat→AV} (ho:o.op=.alloc t) (hz:zk P t=some [.fb]):dg P o s ⟨.bp N 0,[(N,some (.box [.fb])),(N+1,some (.row true bB 0 e))],[N,N+1]⟩:=by
 intro w F O μ K ft a hs BQ Kn Q hk;refine SU (N:=N) ho hz w F O μ K ft a hs (fun id bZ=>BQ id (by simp only [List.mem_cons,List.not_mem_nil,or_false] at bZ ⊢;exact .inl bZ)) Kn Q fun v w' F' O' aZ bX hv hr hf=>?_;have hN:¬ plus K [N] (N+1):=by
  rintro (h | h)
  ·exact BQ (N+1) (by simp) h
  ·simp at h
 obtain ⟨k1,k2⟩:=wP (bB:=bB) (e:=e) hr hN;have e1:plus (plus K [N]) [N+1]=plus K [N,N+1]:=by
  funext id;simp only [plus,List.mem_cons,List.not_mem_nil,or_false,eq_iff_iff,or_assoc]
 have e2:(s.H.c_ [(N,some (.box [.fb]))]).c_ [(N+1,some (.row true bB 0 e))]=s.H.c_ [(N,some (.box [.fb])),(N+1,some (.row true bB 0 e))]:=by
  funext id;simp only [Hp.c_];by_cases h1:id=N
  ·subst h1;simp
  ·simp [h1]
 rw [e1] at k1;rw [e2] at k1;refine hk v w' F' O' (Hy aZ (N+1) 0) bX ?_ k1 ((hf.trans (k2.LH fun id h=>.inl h)));have Ja:VR w' F' aZ (plus K [N]) (.bp N 0) v:=hv;exact Ja.mono (fun _ _=>rfl) (fun _ h=>h) (fun id bZ=>k2.mu id bZ) (fun id bZ=>by
  rcases bZ with h | h
  ·exact .inl h
  ·exact .inr (by simp only [List.mem_cons,List.not_mem_nil,or_false] at h ⊢;exact .inl h)) fun _ _=>rfl
def acN (E:Env) (t:TypeId):Option Ty:=match E.P.underlying t with
 | some (.slice et)=>Lw E.tc et
 | _=>none
def varOf (d:Bool) (q:Ty):RV:=match d with
 | true=>kindOf q
 | false=>.vs
theorem ab2 (d:Bool) (q:Ty):(varOf d q).b=true:=by cases d<;>first | rfl | exact Ns q
def NL (E:Env) (s:bL) (t:TypeId) (d:Bool) (q:Ty) (κ:cu→Option R):Option R:=
 match Cw E.P t with
 | some [.fb]=>κ ⟨.bp s.N 0,[(s.N,some (.box [.ow (s.N+1)])),(s.N+1,some (.row q (varOf d q) []))],2⟩
 | _=>none
theorem Tu {E:Env} {o:Oper} {s:bL} {κ:cu→Option R} {z:R} {t:TypeId} {q:Ty} {d:Bool} (ho:o.op=.alloc t) (hs:s.ok) (h:NL E s t d q κ=some z):vh E.P o s κ z:=by
 have hkb:=ab2 d q;unfold NL at h;generalize varOf d q=kd at h hkb;split at h
 ·rename_i hz;have hz':=(pv hz s.H s.N).1;simp only [di,TA.av] at hz';have lX:=Yb (N:=s.N) (s:=s.st) (bB:=ff q) (e:=bV kd q []) ho hz';have jx:Sub s.H (cA s.H [(s.N,some (.box [.ow (s.N+1)])),(s.N+1,some (.row q kd []))]) s.N:=fun id bZ=>by
   simp only [cA,aS];rw [cb (by omega),cb (by omega)]
  refine ⟨⟨.bp s.N 0,[(s.N,some (.box [.ow (s.N+1)])),(s.N+1,some (.row q kd []))],2⟩,⟨_,_,lX,?_,?_,?_⟩,⟨jx,?_,?_⟩,h⟩
  ·simp only [TA.av];exact (@g8.refl _)
  ·intro id bZ;simpa using bZ
  ·intro id b' ck;obtain ⟨c,hc,hcv,rfl⟩:=ij ck;simp only [bL.next,cA,aS] at hc;simp only [Hp.c_,afj];cases e1:Nat.beq id s.N with
   | true=>
    rw [e1] at hc;have e:=Nat.eq_of_beq_eq_true e1;subst e;cases hc;refine ⟨_,if_pos rfl,?_⟩;simp only [aX.du,di,TA.av,bL.next,cA,aS,cb (show ¬ s.N+1=s.N by omega),Nat.beq_refl,fv,List.length_nil,hkb,dh];refine SY rfl fun k hk=>?_;have:k=0:=by simpa using hk
    subst this;intro w F μ K v hv;have hv:VR w F μ K .fb v:=hv;rw [hv.pr];exact .sb _ _ _
   | false=>
    rw [e1] at hc;have oV:=Nat.ne_of_beq_eq_false e1;rw [if_neg oV];cases e2:Nat.beq id (s.N+1) with
    | true=>
     rw [e2] at hc;have e:=Nat.eq_of_beq_eq_true e2;subst e;cases hc;refine ⟨_,if_pos rfl,?_⟩;simp only [aX.du,hkb,List.length_nil];exact eg.refl _
    | false=>
     rw [e2] at hc;rw [if_neg (Nat.ne_of_beq_eq_false e2)];refine ⟨_,J2 hc hcv,?_⟩;rw [show (s.next _).H=cA s.H [(s.N,some (.box [.ow (s.N+1)])),(s.N+1,some (.row q kd []))] from rfl,p4 jx (hs.H id _ hc)];exact eg.refl _
  ·simp only [TA.wf]
  ·intro id l hm;simp only [List.mem_cons,List.not_mem_nil,or_false,Prod.mk.injEq,Option.some.injEq] at hm;rcases hm with ⟨rfl,h1⟩ | ⟨rfl,h1⟩
   ·cases h1;simp only [aX.refs,hU,TA.wf,and_true];omega
   ·rw [h1];simp only [aX.refs,hU]
 ·cases h
def vt:List Nat→Nat→Bool
 | [],_=>false
 | i::r,k=>match Nat.beq k i with
  | true=>true
  | false=>vt r k
def ab3 (op:BinOp) (b:Bool) (κ:cu→Option R):Option R:=match op with
 | .eql=>κ ⟨.d ⟨.bool,b⟩,[],0⟩
 | .neq=>κ ⟨.d ⟨.bool,!b⟩,[],0⟩
 | _=>none
def aag (P:Program) (op:BinOp) (t:TypeId) (x:TA) (κ:cu→Option R):Option R:=match P.underlying t with
 | some (.interface _)=>match x with
  | .lit .nilIface=>ab3 op true κ
  | .oR _ _=>ab3 op false κ
  | _=>none
 | _=>none
theorem eval_nil (a:Act):a.eval (.const .nilIface)=.nilIface:=rfl
theorem Lx (n:Nat) {t:TypeId} {ms:Array (String×TypeId)} (ht:P.underlying t=some (.interface ms)):(Op.equalIn (n+1) t .nilIface .nilIface).run P w=.ok true w∧∀ u v,(Op.equalIn (n+1) t (.iface u v) .nilIface).run P w=.ok false w:=by
 constructor
 ·simp [Op.equalIn,ca ht]
 ·intro u v;simp [Op.equalIn,ca ht]
theorem uw {t:TypeId} {ms:Array (String×TypeId)} (ht:P.underlying t=some (.interface ms)):(Op.equal t .nilIface .nilIface).run P w=.ok true w∧∀ u v,(Op.equal t (.iface u v) .nilIface).run P w=.ok false w:=Lx 9999 ht
theorem aah {o:Oper} {s:bL} {κ:cu→Option R} {z:R} {op:BinOp} {t u:TypeId} {x:Operand} (ho:o.op=.binOp op t x (.const .nilIface) u) (h:aag P op t (s.val x) κ=some z):vh P o s κ z:=by
 unfold aag at h;split at h
 ·rename_i ms ht;split at h
  ·rename_i hx;have h1:dT s.st x (.lit .nilIface):=bY hx;have key:∀ b,(op=.eql∧b=true)∨(op=.neq∧b=false)→dg P o s.st ⟨.bool b,[],[]⟩:=fun b hb=>b7 fun {w F O μ K ft a} hs=>by
    have hv:=(h1 hs).Ir;rcases hb with ⟨rfl,rfl⟩ | ⟨rfl,rfl⟩
    ·refine ⟨.bool true,?_,.bool _⟩;simp [execOp,ho,eqGuard,hv,eval_nil,binOp,(uw ht).1]
    ·refine ⟨.bool false,?_,.bool _⟩;simp [execOp,ho,eqGuard,hv,eval_nil,binOp,(uw ht).1]
   unfold ab3 at h;split at h
   ·exact nM h (key true (.inl ⟨rfl,rfl⟩))
   ·exact nM h (key false (.inr ⟨rfl,rfl⟩))
   ·cases h
  ·rename_i q y hx;have h1:dT s.st x ((TA.oR q y).av s.H):=bY hx;have key:∀ b,(op=.eql∧b=false)∨(op=.neq∧b=true)→dg P o s.st ⟨.bool b,[],[]⟩:=fun b hb=>b7 fun {w F O μ K ft a} hs=>by
    have h2:=h1 hs;simp only [TA.av] at h2;obtain ⟨v,hv,_⟩:=h2.BH;rcases hb with ⟨rfl,rfl⟩ | ⟨rfl,rfl⟩
    ·refine ⟨.bool false,?_,.bool _⟩;simp [execOp,ho,eqGuard,hv,eval_nil,binOp,(uw ht).2]
    ·refine ⟨.bool true,?_,.bool _⟩;simp [execOp,ho,eqGuard,hv,eval_nil,binOp,(uw ht).2]
   unfold ab3 at h;split at h
   ·exact nM h (key false (.inl ⟨rfl,rfl⟩))
   ·exact nM h (key true (.inr ⟨rfl,rfl⟩))
   ·cases h
  ·cases h
 ·cases h
def ahg (P:Program) (H:List (Nat×aX)) (t:TypeId):TA→Bool
 | .rp id _ off=>match aS H id with
  | some (.row u v _)=>match P.underlying t,P.info? t with
   | some d,some ti=>v.d&&XO u off (cond (Iv d) ti.size 1)
   | _,_=>false
  | _=>false
 | _=>false
def rpD (H:List (Nat×aX)):TA→Bool
 | .rp id _ _=>match aS H id with
  | some (.row _ v _)=>v.d
  | _=>false
 | _=>false
def ab4 (E:Env):Option Nat→Bool
 | some d=>vt E.dp d
 | none=>false
def Kb (E:Env) (d:Option Nat) (bJ:List CT):List CT:=match ab4 E d with
 | true=>bJ.reverse
 | false=>bJ
theorem NM {E:Env} {d:Option Nat} {bJ:List CT} {c:CT} (h:c∈Kb E d bJ):c∈bJ:=by
 unfold Kb at h;split at h
 ·exact List.mem_reverse.1 h
 ·exact h
def RV.whole:RV→RV
 | .ms | .vs=>.vs
 | .dm | .dv=>.dv
theorem Wy (v:RV):v.whole.b=true:=by cases v<;>rfl
theorem Tv (v:RV) (t:Ty) (xs:List t.dn):bV v.whole t xs=bV v t xs:=by cases v<;>rfl
def NN (P:Program) (s:bL) (t:TypeId) (x y m:TA) (κ:cu→Option R):Option R:=match x,y,m,P.underlying t with
 | .ow id,.d ⟨.int _,a⟩,.d ⟨.int _,b⟩,some (.slice et)=>match P.info? et,aS s.H id with
  | some _,some (.row q v xs)=>bE (bI a (xs.length:Int)&&bI b (xs.length:Int)) (κ ⟨.ow s.N,(s.N,some (.row q v.whole xs))::[id].map fun i=>(i,none),1⟩)
  | _,_=>none
 | _,_,_,_=>none
theorem Tw {o:Oper} {s:bL} {κ:cu→Option R} {z:R} {x y m:Operand} {t:TypeId} (ho:o.op=.slice t x none (some y) (some m)) (hs:s.ok) (h:NN P s t (s.val x) (s.val y) (s.val m) κ=some z):vh P o s κ z:=by
 unfold NN at h;split at h
 ·rename_i id k1 a k2 b et hx hy hm ht;split at h
  ·rename_i ti q v xs hi hb;obtain ⟨hc,hz⟩:=fT h;rw [Bool.and_eq_true] at hc;have e1:a=(xs.length:Int):=eq_of_beq (α:=Int) hc.1;have e2:b=(xs.length:Int):=eq_of_beq (α:=Int) hc.2;have h1:=@bY s x _ hx;have h2:dT s.st y (.int k1 a):=@bY s y _ hy;have h3:dT s.st m (.int k2 b):=@bY s m _ hm;rw [e1] at h2;rw [e2] at h3;have e:(TA.ow id).av s.H=dh v.b id xs.length (ff q):=by simp only [TA.av,fv,hb]
   rw [e] at h1;have lX:=adW (P:=P) (N:=s.N) ho h1 (dx hb) ht hi h2 h3;refine Ny (k:=1) hs hz lX (wK fun h=>absurd h (by omega)) ?_ (by simp only [TA.wf];omega) ?_
   ·simp only [TA.av,cA,aS,Nat.beq_refl,fv,Wy];exact g8.refl _
   ·simp only [aX.du,Wy,Tv];exact eg.refl _
  ·cases h
 ·cases h
def evT (E:Env) (bJ:List CT) (o:Oper) (s:bL) (κ wL:cu→Option R):Option R:=
 match o.op with
 | .call ⟨.value x,⟨args⟩,_⟩=>match s.val x with
  | .fn (.func f) first cap=>IS (Kb E o.dst bJ) f s ((first++args.map s.val)++cap) κ wL
  | _=>none
 | .call ⟨.invoke x name,⟨args⟩,_⟩=>match s.val x with
  | .oR t b=>match NJ E.mt t name with
   | some f=>IS (Kb E o.dst bJ) f s (b::args.map s.val) κ wL
   | none=>none
  | _=>none
 | .box t x=>match o.dst with
  | some d=>match vt E.fz d with
   | true=>Vj E s t (s.val x) κ
   | false=>Wj s (s.val x) κ
  | none=>none
 | .alloc t=>match acN E t with
  | some q=>NL E s t (ab4 E o.dst) q κ
  | none=>LO E.P s t κ
 | .binOp op t x (.const .nilIface) _=>aag E.P op t (s.val x) κ
 | .build t ⟨ps⟩=>match E.P.underlying t with
  | some (.array _ _)=>Hk E.P s t ps κ
  | _=>LQ E.P s t ps κ
 | .index t x y=>match E.P.underlying t with
  | some (.array _ _)=>Hl E.P t (s.val x) (s.val y) κ
  | _=>LN E.P t (s.val x) (s.val y) κ
 | .convert t u x=>match E.P.underlying t with
  | some (.slice _)=>Vi E.P s t u (s.val x) κ
  | _=>Q8 E.P t u (s.val x) κ
 | .makeSlice t x y=>match o.dst with
  | some d=>match vt E.fz d with
   | true=>Re E s t (s.val x) (s.val y) κ
   | false=>match vt E.dp d with
    | true=>Rm E s t (NA x y) (s.val x) (s.val y) κ
    | false=>Rc E s t (s.val x) (s.val y) κ
  | none=>none
 | .load t x=>match ahg E.P s.H t (s.val x) with
  | true=>Rl E.P s t (s.val x) κ
  | false=>Q_ E.P s.H t (s.val x) κ
 | .store t x y=>match rpD s.H (s.val x) with
  | true=>Nz E.P s.H t (s.val x) (s.val y) κ
  | false=>LP E.P s.H t (s.val x) (s.val y) κ
 | .buildSlice t n ⟨ps⟩=>match ab4 E o.dst with
  | true=>match n,ps with
   | 0,[]=>Hi E s t κ
   | _,_=>Hh E s t n ps κ
  | false=>EO E s t n ps κ
 | .makeMap t none=>Kc E s t κ
 | .lookup t x k ok=>NO E s t (s.val x) (s.val k) ok κ
 | .mapUpdate t m k x=>IU E s t (s.val m) (s.val k) (s.val x) κ
 | .insert t m k x=>IU E s t (s.val m) (s.val k) (s.val x) κ
 | .slice t x none (some y) (some m)=>NN E.P s t (s.val x) (s.val y) (s.val m) κ
 | .call ⟨.builtin .delete,⟨[m,k]⟩,⟨[t,_]⟩⟩=>NP E s t (s.val m) (s.val k) κ
 | _=>ev0 E o s κ
structure px (E:Env) (bJ:List CT):Prop where
 con:∀ c,c∈bJ→aV E.P c
 aft:∀ t n f,(t,n,f)∈E.mt→gF E.P t n f
theorem Vk {E:Env} {bJ:List CT} {o:Oper} {s:bL} {κ wL:cu→Option R} {z:R} (hE:px E bJ) (hs:s.ok) (h:evT E bJ o s κ wL=some z):vh E.P o s κ z∨EvP E.P o s wL z:=by
 unfold evT at h;split at h
 ·rename_i x args ts ho;split at h
  ·rename_i f first cap hx
   exact Hm (Rq ho hx) hs (fun c hc=>hE.con c (NM hc)) h
  ·cases h
 ·rename_i x name args ts ho;split at h
  ·rename_i t b hx;split at h
   ·rename_i f hf;exact Hm (OY ho hx (hE.aft _ _ _ (NK hf))) hs (fun c hc=>hE.con c (NM hc)) h
   ·cases h
  ·cases h
 ·rename_i t x ho;split at h
  ·split at h
   ·exact .inl (Ya ho hs h)
   ·exact .inl (S6 ho hs h)
  ·cases h
 ·rename_i t ho;split at h
  ·exact .inl (Tu ho hs h)
  ·exact .inl (No ho hs h)
 ·rename_i op t x u ho;exact .inl (aah ho h)
 ·rename_i t ps ho;split at h
  ·exact .inl (OW ho hs h)
  ·exact .inl (Nq ho hs h)
 ·rename_i t x y ho;split at h
  ·exact .inl (OX ho hs h)
  ·exact .inl (Nj ho h)
 ·rename_i t u x ho;split at h
  ·exact .inl (X_ ho h)
  ·exact .inl (PO ho h)
 ·rename_i t x y ho;split at h
  ·split at h
   ·exact .inl (U4 ho hs h)
   ·split at h
    ·exact .inl (Vb ho hs h)
    ·exact .inl (PR ho hs h)
  ·cases h
 ·rename_i t x ho;split at h
  ·exact .inl (Va ho hs h)
  ·exact .inl (PQ ho hs h)
 ·rename_i t x y ho;split at h
  ·exact .inl (Ti ho hs h)
  ·exact .inl (Np ho hs h)
 ·rename_i t n ps ho;split at h
  ·split at h
   ·exact .inl (OU ho hs h)
   ·exact .inl (OT ho hs h)
  ·exact .inl (IJ ho hs h)
 ·rename_i ho;exact .inl (Rr ho hs h)
 ·rename_i ho;exact .inl (Tx ho hs h)
 ·rename_i ho;exact .inl (K3 (.inl ho) hs h)
 ·rename_i ho;exact .inl (K3 (.inr ho) hs h)
 ·rename_i ho;exact .inl (Tw ho hs h)
 ·rename_i ho;exact .inl (Tz ho hs h)
 ·exact .inl (ad4 hs h)
inductive Want where
 | yes
 | no
 | on (t:Nat) (b c:Bool)
def K4 (ops:Array Oper) (s:bL) (o:Oper):Option Want:=
 match o.guard with
 | none=>some .yes
 | some (j,c)=>match (ops[j]?).bind (·.dst) with
  | some t=>match look s.tm t with
   | .d ⟨.bool,b⟩=>some (.on t b c)
   | .lit (.tuple _)=>some .no
   | _=>none
  | none=>some .no
def aea:Value→Option Bool
 | .bool b=>some b
 | _=>none
theorem ab5 {ops:Array Oper} {a:Act} {o:Oper} {j t:Nat} {c:Bool} {v:Value} (hg:o.guard=some (j,c)) (ht:(ops[j]?).bind (·.dst)=some t) (hv:a.tmps.getD t undef=v) (hu:v≠undef):
  Region.wanted o (yielded ops a.tmps)=(aea v==some c):=by
 have:a.tmps[t]?=some v:=by
  rcases Nat.lt_or_ge t a.tmps.size with h3 | h3
  ·simpa [h3] using hv
  ·exact absurd (by simpa [Array.getElem?_eq_none h3] using hv.symm) hu
 unfold Region.wanted;rw [hg];simp only [yielded,ht,Option.bind_some,this];cases v<;>rfl
theorem nN {ops:Array Oper} {s:bL} {a:Act} {o:Oper} {x:Want} (hs:SR w F O μ K s.st ft a) (h:K4 ops s o=some x):
  match x with | .yes=>Region.wanted o (yielded ops a.tmps)=true | .no=>Region.wanted o (yielded ops a.tmps)=false | .on _ b c=>Region.wanted o (yielded ops a.tmps)=(b==c):=by
 unfold K4 at h;split at h
 ·rename_i hg;cases h;unfold Region.wanted;rw [hg]
 ·rename_i j c hg;split at h
  ·rename_i t ht;have hv:=hs.tm t;simp only [bL.st] at hv;split at h
   ·rename_i b hb;cases h;rw [hb] at hv;simp only [TA.av,cL] at hv;simp only;rw [ab5 hg ht hv.eR (by simp [undef])];cases b<;>cases c<;>rfl
   ·rename_i l hb;cases h;rw [hb] at hv;simp only [TA.av] at hv;have Iw:=hv.Ir;simp only;unfold Region.wanted;rw [hg];simp only [yielded,ht,Option.bind_some];rcases Nat.lt_or_ge t a.tmps.size with h3 | h3
    ·have:a.tmps[t]?=some (.tuple l):=by simpa [h3] using Iw
     rw [this];simp
    ·rw [Array.getElem?_eq_none h3];simp
   ·cases h
  ·rename_i ht;cases h;simp only;unfold Region.wanted;rw [hg];simp [yielded,ht]
end Go.Proofs.YtjkbbdldmdajkaaGreatDoor.c5
