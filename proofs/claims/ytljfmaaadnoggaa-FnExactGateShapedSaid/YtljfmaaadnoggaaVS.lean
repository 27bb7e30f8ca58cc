/- The evaluator of operations, calls with them; a region in the text's order. No condition. -/
import Derived.Test.YtljfmaaadnoggaaVSA
set_option linter.unusedSimpArgs false
set_option linter.unusedVariables false
namespace Go.Proofs.Ytljfmaaadnoggaa.Abs
open Go Go.RowKit
variable {w w' w'':World} {F F' F'' O O' O'':Nat→Prop} {μ μ' μ'':Nat→Nat} {K K' K'':Nat→Prop} {ft ft':Nat→Nat→Prop} {P:Program} {R:Type}
theorem avL_app (H:List (Nat×TBlk)) (l m:List TA):avL H (l++m)=avL H l++avL H m:=by simp [avL_map]
theorem callop_value {o:Oper} {s:TSt} {x:Operand} {f:FuncId} {first cap:List TA} {args:List Operand} {ts:Array TypeId} (ho:o.op=.call ⟨.value x,⟨args⟩,ts⟩) (hx:s.val x=.fn (.func f) first cap):
  CallOp P o s f ((first++args.map s.val)++cap):=by
 intro hc w F O μ K ft a hs
 have hv:=opd_at hx hs
 simp only [TA.av] at hv
 obtain ⟨vs,us,hev,h1,h2⟩:=hv.fn_inv
 refine ⟨(vs++args.map a.eval)++us,?_,by rw [avL_app,avL_app];exact (h1.app (opds_val s args hs)).app h2⟩
 have:=hc ⟨(vs++args.map a.eval)++us⟩ w
 simp only [execOp,ho,resolve,hev,Deferred.ofValue,Sem.run_bind,Sem.run_pure,Result.andThen_ok,invoke]
 simpa using this
def MethodIs (P:Program) (t:TypeId) (name:String) (f:FuncId):Prop:=∀ (v:Value) (w:World),(method (P.types.size+Made.depth) t v name).run P w=.ok (f,v) w
theorem callop_invoke {o:Oper} {s:TSt} {x:Operand} {name:String} {f:FuncId} {t:TypeId} {b:TA} {args:List Operand} {ts:Array TypeId} (ho:o.op=.call ⟨.invoke x name,⟨args⟩,ts⟩) (hx:s.val x=.ifc t b) (hm:MethodIs P t name f):
  CallOp P o s f (b::args.map s.val):=by
 intro hc w F O μ K ft a hs
 have hv:=opd_at hx hs
 simp only [TA.av] at hv
 obtain ⟨u,hev,h1⟩:=hv.ifc_inv
 refine ⟨u::args.map a.eval,?_,by simp only [avL];exact .cons h1 (opds_val s args hs)⟩
 have:=hc ⟨u::args.map a.eval⟩ w
 have e:List.take args.length (args.map a.eval)=args.map a.eval:=List.take_of_length_le (by simp)
 simp [execOp,ho,resolve,hev,invoke,callMethod,hm u w,e]
 simpa using this
def fits (c:CT) (s:TSt) (as:List TA):Bool:=
 match extL s.H c.args as ⟨[],[]⟩ with
 | some (e1,_)=>(extBs s.H c.bps 0 e1).isSome
 | none=>false
def evCalls:List CT→FuncId→TSt→List TA→(TRes→Option R)→(TRes→Option R)→Option R
 | [],_,_,_,_,_=>none
 | c::r,f,s,as,κ,κp=>match Nat.beq c.f f&&fits c s as with
  | true=>evCall c s as κ κp
  | false=>evCalls r f s as κ κp
theorem evCalls_ok {f:FuncId} {o:Oper} {s:TSt} {as:List TA} {κ κp:TRes→Option R} {z:R} (ho:CallOp P o s f as) (hs:s.ok):∀ {cts:List CT},(∀ c,c∈cts→ConOk P c)→evCalls cts f s as κ κp=some z→EvR P o s κ z∨EvP P o s κp z
 | [],_,h=>by cases h
 | c::r,hc,h=>by
  simp only [evCalls] at h
  split at h
  ·rename_i hb
   simp only [Bool.and_eq_true] at hb
   exact evCall_ok (hc c (by simp)) (Nat.eq_of_beq_eq_true hb.1▸ho) hs h
  ·exact evCalls_ok ho hs (fun c hm=>hc c (by simp [hm])) h
def methOf:List (TypeId×String×FuncId)→TypeId→String→Option FuncId
 | [],_,_=>none
 | (t,n,f)::r,u,m=>match Nat.beq t u&&(if n=m then true else false) with
  | true=>some f
  | false=>methOf r u m
theorem methOf_mem:∀ {l:List (TypeId×String×FuncId)} {t:TypeId} {n:String} {f:FuncId},methOf l t n=some f→(t,n,f)∈l
 | [],_,_,_,h=>by cases h
 | (t,n,f)::r,u,m,g,h=>by
  simp only [methOf] at h
  split at h
  ·rename_i hb
   simp only [Bool.and_eq_true] at hb
   cases h
   have h2:n=m:=by
    have:=hb.2
    split at this
    ·assumption
    ·cases this
   rw [Nat.eq_of_beq_eq_true hb.1,h2];simp
  ·exact List.mem_cons_of_mem _ (methOf_mem h)
theorem op_boxF {o:Oper} {s:SSt} {x:Operand} {t:TypeId} {a:AV} {l:List AV} (ho:o.op=.box t x) (hx:Opd s x a) (hl:CellsV a l) (hc:∀ b,b∈l→Clo b):OpOk P o s ⟨.fp l.length (fun j=>l.getD j .top) 0,[],[]⟩:=by
 intro w F O μ K ft act hs _ Kn Q hk
 have hv:=(hl (hx hs)).clo hc
 let ob:Obj:=.cells (act.eval x).cells t (0,0)
 have hp:=put_alloc w ob
 have hr:=hs.hr
 have frz:∀ b,F b→(w.alloc ob).heap[b]?=w.heap[b]?:=fun b hb=>hp.other b (hr.wf b hb) (Nat.ne_of_lt (hr.wf b hb))
 unfold Oper.wp
 have hrun:(execOp act.eval o).run P w=.ok (.value (.pointer (some ⟨w.heap.size,0,none⟩))) (w.alloc ob):=by
  simp [execOp,ho,Instr.box,newVar,newRow,ob]
 rw [hrun,Oper.upon_value]
 refine hk _ _ (fun b=>F b∨b=w.heap.size) O μ ft ?_ ?_ ?_<;>try simp only [plus_nil,Hp.upd_nil]
 ·refine .fp _ _ _ w.heap.size 0 (fun j=>(act.eval x).cells.toList.getD j undef) (.inr rfl) (fun j hj=>?_) fun j hj=>?_
  ·have h1:j < (act.eval x).cells.size:=by have:=hv.1;simp at this;omega
   have h2:(w.alloc ob).heap[w.heap.size]?=some ob:=heap_new w ob
   unfold World.cell?
   simp only
   rw [h2]
   simp [ob,h1]
  ·have:=hv.2 j (by omega)
   rw [Nat.zero_add]
   exact this.mono frz (fun _ h=>.inl h) (fun _ h=>h.elim) (fun _ h=>h) fun _ h=>h.elim
 ·refine { lt:=fun id hid=>Nat.lt_of_lt_of_le (hr.lt id hid) hp.size,known:=hr.known,blk:=fun id b hb hlv=>?_,self:=hr.self,own:=hr.own,dj:=hr.dj,nof:=?_,wf:=?_,owf:=fun b hb=>Nat.lt_of_lt_of_le (hr.owf b hb) hp.size,pos:=hr.pos.mono hp.size (fun _ h=>.inl h) frz }
  ·obtain ⟨o0,ho0,hB⟩:=hr.blk id b hb hlv
   have hid:=hr.known id b hb
   have hne:∀ y,y < w.heap.size→(w.alloc ob).heap[y]?=w.heap[y]?:=fun y hy=>hp.other y hy (Nat.ne_of_lt hy)
   refine ⟨o0,by rw [hne _ (hr.lt id hid)];exact ho0,hB.mono frz (fun _ h=>.inl h) (fun _ _=>rfl) (fun _ h=>h) (fun i hi=>hp.shape _ (hr.lt i hi)) fun y hy _=>hne y (hr.owf y (hr.own id ⟨b,hb,hlv⟩ y hy))⟩
  ·rintro b hb (hF | hF)
   ·exact hr.nof b hb hF
   ·have:=hr.owf b hb;omega
  ·rintro b (hF | hF)
   ·exact Nat.lt_of_lt_of_le (hr.wf b hF) hp.size
   ·rw [hF];exact hp.lt
 ·refine { os:=hp.os,tape:=hp.tape,output:=hp.output,size:=hp.size,mu:=fun _ _=>rfl,froz:=fun _ h=>.inl h,shape:=hp.shape,same:=fun b hb _=>hp.other b hb (Nat.ne_of_lt hb),onew:=fun _ h=>.inl h,fnew:=?_ }
  rintro b (hF | hF)
  ·exact .inl hF
  ·exact .inr (.inl (Nat.le_of_eq hF.symm))
def evBoxF (E:Env) (s:TSt) (t:TypeId) (x:TA) (κ:TRes→Option R):Option R:=
 match cellsTA s.H x,tyOf E.tc t with
 | some l,some q=>match leafDs (tlts q) l with
  | some ds=>match bld q ds with
   | some y=>κ ⟨.fp q y 0,[],0⟩
   | none=>none
  | none=>none
 | _,_=>none
theorem evBoxF_ok {E:Env} {o:Oper} {s:TSt} {κ:TRes→Option R} {z:R} {x:Operand} {t:TypeId} (ho:o.op=.box t x) (hs:s.ok) (h:evBoxF E s t (s.val x) κ=some z):EvR E.P o s κ z:=by
 unfold evBoxF at h
 split at h
 ·rename_i l q hl hq
  split at h
  ·rename_i ds hds
   split at h
   ·rename_i y hy
    obtain ⟨h1,h2⟩:=cellsTA_ok hl (val_wf hs x)
    obtain ⟨d1,d2,d3,d4⟩:=leafDs_some hds
    have hop:=op_boxF (P:=E.P) ho (opd_val s x) h1 (leafDs_clo hds s.H).1
    refine evr_val h hop ?_ (by simp only [TA.wf])
    simp only [TA.av]
    have hlen:(avL s.H l).length=tsz q:=by
     rw [avL_length,← d1,← tget_length q y,bld_some hy]
    rw [hlen]
    intro w F μ K v hv
    have hcells:∀ j,(tcells q y).getD j .top=(ds.map dav).getD j .top:=fun j=>by rw [← tget_cells,bld_some hy]
    cases hv with
    | fp _ _ _ b o' u hF hu hv=>
     refine .fp _ _ _ b o' u hF hu fun j hj=>?_
     have:=hv j hj
     rw [hcells,Nat.zero_add]
     rw [Nat.zero_add] at hj
     simp only [Nat.zero_add] at this
     have hj2:j < l.length:=by rw [avL_length] at hlen;omega
     rw [avL_getD _ _ _ hj2] at this
     exact d4 s.H j hj2 this
   ·cases h
  ·cases h
 ·cases h
theorem op_allocV {o:Oper} {s:SSt} {t:TypeId} {N esz:Nat} {e:Nat→Nat→AV} (ho:o.op=.alloc t) (hz:zeroA P t=some [.nils]):OpOk P o s ⟨.bp N 0,[(N,some (.box [.nils])),(N+1,some (.row true esz 0 e))],[N,N+1]⟩:=by
 intro w F O μ K ft a hs hnew Kn Q hk
 refine op_alloc (N:=N) ho hz w F O μ K ft a hs (fun id hid=>hnew id (by simp only [List.mem_cons,List.not_mem_nil,or_false] at hid ⊢;exact .inl hid)) Kn Q fun v w' F' O' μ' ft' hv hr hf=>?_
 have hN:¬ plus K [N] (N+1):=by
  rintro (h | h)
  ·exact hnew (N+1) (by simp) h
  ·simp at h
 obtain ⟨k1,k2⟩:=virt_step (esz:=esz) (e:=e) hr hN
 have e1:plus (plus K [N]) [N+1]=plus K [N,N+1]:=by
  funext id;simp only [plus,List.mem_cons,List.not_mem_nil,or_false,eq_iff_iff,or_assoc]
 have e2:(s.H.upd [(N,some (.box [.nils]))]).upd [(N+1,some (.row true esz 0 e))]=s.H.upd [(N,some (.box [.nils])),(N+1,some (.row true esz 0 e))]:=by
  funext id
  simp only [Hp.upd]
  by_cases h1:id=N
  ·subst h1;simp
  ·simp [h1]
 rw [e1] at k1
 rw [e2] at k1
 refine hk v w' F' O' (mu1 μ' (N+1) 0) ft' ?_ k1 ((hf.trans (k2.pin fun id h=>.inl h)))
 have hv1:VR w' F' μ' (plus K [N]) (.bp N 0) v:=hv
 exact hv1.mono (fun _ _=>rfl) (fun _ h=>h) (fun id hid=>k2.mu id hid) (fun id hid=>by
  rcases hid with h | h
  ·exact .inl h
  ·exact .inr (by simp only [List.mem_cons,List.not_mem_nil,or_false] at h ⊢;exact .inl h)) fun _ _=>rfl
def rowTy (E:Env) (t:TypeId):Option Ty:=match E.P.underlying t with
 | some (.slice et)=>tyOf E.tc et
 | _=>none
def varOf (d:Bool) (q:Ty):RV:=match d with
 | true=>kindOf q
 | false=>.vs
theorem varOf_b (d:Bool) (q:Ty):(varOf d q).b=true:=by cases d<;>first | rfl | exact kindOf_b q
def evAllocV (E:Env) (s:TSt) (t:TypeId) (d:Bool) (q:Ty) (κ:TRes→Option R):Option R:=
 match zeroT E.P t with
 | some [.nils]=>κ ⟨.bp s.N 0,[(s.N,some (.box [.ow (s.N+1)])),(s.N+1,some (.row q (varOf d q) []))],2⟩
 | _=>none
theorem evAllocV_ok {E:Env} {o:Oper} {s:TSt} {κ:TRes→Option R} {z:R} {t:TypeId} {q:Ty} {d:Bool} (ho:o.op=.alloc t) (hs:s.ok) (h:evAllocV E s t d q κ=some z):EvR E.P o s κ z:=by
 have hkb:=varOf_b d q
 unfold evAllocV at h
 generalize varOf d q=kd at h hkb
 split at h
 ·rename_i hz
  have hz':=(zeroT_ok hz s.H s.N).1
  simp only [avL,TA.av] at hz'
  have hop:=op_allocV (N:=s.N) (s:=s.st) (esz:=tsz q) (e:=vcells kd q []) ho hz'
  have hsub:Sub s.H (updH s.H [(s.N,some (.box [.ow (s.N+1)])),(s.N+1,some (.row q kd []))]) s.N:=fun id hid=>by
   simp only [updH,lookH]
   rw [nbeq_ne (by omega),nbeq_ne (by omega)]
  refine ⟨⟨.bp s.N 0,[(s.N,some (.box [.ow (s.N+1)])),(s.N+1,some (.row q kd []))],2⟩,⟨_,_,hop,?_,?_,?_⟩,⟨hsub,?_,?_⟩,h⟩
  ·simp only [TA.av];exact (@Imp.refl _)
  ·intro id hid;simpa using hid
  ·intro id b' hb'
   obtain ⟨c,hc,hcv,rfl⟩:=hpT_some hb'
   simp only [TSt.next,updH,lookH] at hc
   simp only [Hp.upd,st_H]
   cases e1:Nat.beq id s.N with
   | true=>
    rw [e1] at hc
    have e:=Nat.eq_of_beq_eq_true e1
    subst e
    cases hc
    refine ⟨_,if_pos rfl,?_⟩
    simp only [TBlk.blk,avL,TA.av,TSt.next,updH,lookH,nbeq_ne (show ¬ s.N+1=s.N by omega),Nat.beq_refl,shp,List.length_nil,hkb,rowAV]
    refine bimp_box rfl fun k hk=>?_
    have:k=0:=by simpa using hk
    subst this
    intro w F μ K v hv
    have hv:VR w F μ K .nils v:=hv
    rw [hv.nils_inv]
    exact .vsnil _ _ _
   | false=>
    rw [e1] at hc
    have hne:=Nat.ne_of_beq_eq_false e1
    rw [if_neg hne]
    cases e2:Nat.beq id (s.N+1) with
    | true=>
     rw [e2] at hc
     have e:=Nat.eq_of_beq_eq_true e2
     subst e
     cases hc
     refine ⟨_,if_pos rfl,?_⟩
     simp only [TBlk.blk,hkb,List.length_nil]
     exact BImp.refl _
    | false=>
     rw [e2] at hc
     rw [if_neg (Nat.ne_of_beq_eq_false e2)]
     refine ⟨_,hpT_of hc hcv,?_⟩
     rw [show (s.next _).H=updH s.H [(s.N,some (.box [.ow (s.N+1)])),(s.N+1,some (.row q kd []))] from rfl,blk_sub hsub (hs.H id _ hc)]
     exact BImp.refl _
  ·simp only [TA.wf]
  ·intro id l hm
   simp only [List.mem_cons,List.not_mem_nil,or_false,Prod.mk.injEq,Option.some.injEq] at hm
   rcases hm with ⟨rfl,h1⟩ | ⟨rfl,h1⟩
   ·cases h1
    simp only [TBlk.refs,wfL,TA.wf,and_true]
    omega
   ·rw [h1];simp only [TBlk.refs,wfL]
 ·cases h
def memN:List Nat→Nat→Bool
 | [],_=>false
 | i::r,k=>match Nat.beq k i with
  | true=>true
  | false=>memN r k
def nilB (op:BinOp) (b:Bool) (κ:TRes→Option R):Option R:=match op with
 | .eql=>κ ⟨.d ⟨.bool,b⟩,[],0⟩
 | .neq=>κ ⟨.d ⟨.bool,!b⟩,[],0⟩
 | _=>none
def evNil (P:Program) (op:BinOp) (t:TypeId) (x:TA) (κ:TRes→Option R):Option R:=match P.underlying t with
 | some (.interface _)=>match x with
  | .lit .nilIface=>nilB op true κ
  | .ifc _ _=>nilB op false κ
  | _=>none
 | _=>none
theorem eval_nil (a:Act):a.eval (.const .nilIface)=.nilIface:=rfl
theorem run_equalIn_nil (n:Nat) {t:TypeId} {ms:Array (String×TypeId)} (ht:P.underlying t=some (.interface ms)):(Op.equalIn (n+1) t .nilIface .nilIface).run P w=.ok true w∧∀ u v,(Op.equalIn (n+1) t (.iface u v) .nilIface).run P w=.ok false w:=by
 constructor
 ·simp [Op.equalIn,run_und ht]
 ·intro u v;simp [Op.equalIn,run_und ht]
theorem run_equal_nil {t:TypeId} {ms:Array (String×TypeId)} (ht:P.underlying t=some (.interface ms)):(Op.equal t .nilIface .nilIface).run P w=.ok true w∧∀ u v,(Op.equal t (.iface u v) .nilIface).run P w=.ok false w:=run_equalIn_nil 9999 ht
theorem evNil_ok {o:Oper} {s:TSt} {κ:TRes→Option R} {z:R} {op:BinOp} {t u:TypeId} {x:Operand} (ho:o.op=.binOp op t x (.const .nilIface) u) (h:evNil P op t (s.val x) κ=some z):EvR P o s κ z:=by
 unfold evNil at h
 split at h
 ·rename_i ms ht
  split at h
  ·rename_i hx
   have h1:Opd s.st x (.lit .nilIface):=opd_at hx
   have key:∀ b,(op=.eql∧b=true)∨(op=.neq∧b=false)→OpOk P o s.st ⟨.bool b,[],[]⟩:=fun b hb=>opok_value fun {w F O μ K ft a} hs=>by
    have hv:=(h1 hs).lit_inv
    rcases hb with ⟨rfl,rfl⟩ | ⟨rfl,rfl⟩
    ·refine ⟨.bool true,?_,.bool _⟩
     simp [execOp,ho,eqGuard,hv,eval_nil,binOp,(run_equal_nil ht).1]
    ·refine ⟨.bool false,?_,.bool _⟩
     simp [execOp,ho,eqGuard,hv,eval_nil,binOp,(run_equal_nil ht).1]
   unfold nilB at h
   split at h
   ·exact evr_d h (key true (.inl ⟨rfl,rfl⟩))
   ·exact evr_d h (key false (.inr ⟨rfl,rfl⟩))
   ·cases h
  ·rename_i q y hx
   have h1:Opd s.st x ((TA.ifc q y).av s.H):=opd_at hx
   have key:∀ b,(op=.eql∧b=false)∨(op=.neq∧b=true)→OpOk P o s.st ⟨.bool b,[],[]⟩:=fun b hb=>opok_value fun {w F O μ K ft a} hs=>by
    have h2:=h1 hs
    simp only [TA.av] at h2
    obtain ⟨v,hv,_⟩:=h2.ifc_inv
    rcases hb with ⟨rfl,rfl⟩ | ⟨rfl,rfl⟩
    ·refine ⟨.bool false,?_,.bool _⟩
     simp [execOp,ho,eqGuard,hv,eval_nil,binOp,(run_equal_nil ht).2]
    ·refine ⟨.bool true,?_,.bool _⟩
     simp [execOp,ho,eqGuard,hv,eval_nil,binOp,(run_equal_nil ht).2]
   unfold nilB at h
   split at h
   ·exact evr_d h (key false (.inl ⟨rfl,rfl⟩))
   ·exact evr_d h (key true (.inr ⟨rfl,rfl⟩))
   ·cases h
  ·cases h
 ·cases h
def opnT (P:Program) (H:List (Nat×TBlk)) (t:TypeId):TA→Bool
 | .rp id _ off=>match lookH H id with
  | some (.row u v _)=>match P.underlying t,P.info? t with
   | some d,some ti=>v.d&&slIn u off (cond (aggD d) ti.size 1)
   | _,_=>false
  | _=>false
 | _=>false
def rpD (H:List (Nat×TBlk)):TA→Bool
 | .rp id _ _=>match lookH H id with
  | some (.row _ v _)=>v.d
  | _=>false
 | _=>false
def dpOf (E:Env):Option Nat→Bool
 | some d=>memN E.dp d
 | none=>false
def ctsFor (E:Env) (d:Option Nat) (cts:List CT):List CT:=match dpOf E d with
 | true=>cts.reverse
 | false=>cts
theorem ctsFor_mem {E:Env} {d:Option Nat} {cts:List CT} {c:CT} (h:c∈ctsFor E d cts):c∈cts:=by
 unfold ctsFor at h
 split at h
 ·exact List.mem_reverse.1 h
 ·exact h
def evT (E:Env) (cts:List CT) (o:Oper) (s:TSt) (κ κp:TRes→Option R):Option R:=
 match o.op with
 | .call ⟨.value x,⟨args⟩,_⟩=>match s.val x with
  | .fn (.func f) first cap=>evCalls (ctsFor E o.dst cts) f s ((first++args.map s.val)++cap) κ κp
  | _=>none
 | .call ⟨.invoke x name,⟨args⟩,_⟩=>match s.val x with
  | .ifc t b=>match methOf E.mt t name with
   | some f=>evCalls (ctsFor E o.dst cts) f s (b::args.map s.val) κ κp
   | none=>none
  | _=>none
 | .box t x=>match o.dst with
  | some d=>match memN E.fz d with
   | true=>evBoxF E s t (s.val x) κ
   | false=>evBox s (s.val x) κ
  | none=>none
 | .alloc t=>match rowTy E t with
  | some q=>evAllocV E s t (dpOf E o.dst) q κ
  | none=>evAlloc E.P s t κ
 | .binOp op t x (.const .nilIface) _=>evNil E.P op t (s.val x) κ
 | .build t ⟨ps⟩=>match E.P.underlying t with
  | some (.array _ _)=>evBuildArr E.P s t ps κ
  | _=>evBuild E.P s t ps κ
 | .index t x y=>match E.P.underlying t with
  | some (.array _ _)=>evIndexArr E.P t (s.val x) (s.val y) κ
  | _=>evIndex E.P t (s.val x) (s.val y) κ
 | .convert t u x=>match E.P.underlying t with
  | some (.slice _)=>evBstr E.P s t u (s.val x) κ
  | _=>evConv E.P t u (s.val x) κ
 | .makeSlice t x y=>match o.dst with
  | some d=>match memN E.fz d with
   | true=>evMakeZ E s t (s.val x) (s.val y) κ
   | false=>match memN E.dp d with
    | true=>evMakeO E s t (sameOp x y) (s.val x) (s.val y) κ
    | false=>evMake E s t (s.val x) (s.val y) κ
  | none=>none
 | .load t x=>match opnT E.P s.H t (s.val x) with
  | true=>evLoadO E.P s t (s.val x) κ
  | false=>evLoad E.P s.H t (s.val x) κ
 | .store t x y=>match rpD s.H (s.val x) with
  | true=>evStoreO E.P s.H t (s.val x) (s.val y) κ
  | false=>evStore E.P s.H t (s.val x) (s.val y) κ
 | .buildSlice t n ⟨ps⟩=>match dpOf E o.dst with
  | true=>evBuildSlO E s t n ps κ
  | false=>evBuildSl E s t n ps κ
 | .makeMap t none=>evMakeMap E s t κ
 | .lookup t x k ok=>evLookup E s t (s.val x) (s.val k) ok κ
 | .mapUpdate t m k x=>evMapUpd E s t (s.val m) (s.val k) (s.val x) κ
 | .insert t m k x=>evMapUpd E s t (s.val m) (s.val k) (s.val x) κ
 | _=>ev0 E o s κ
structure EnvOk (E:Env) (cts:List CT):Prop where
 con:∀ c,c∈cts→ConOk E.P c
 meth:∀ t n f,(t,n,f)∈E.mt→MethodIs E.P t n f
theorem evT_ok {E:Env} {cts:List CT} {o:Oper} {s:TSt} {κ κp:TRes→Option R} {z:R} (hE:EnvOk E cts) (hs:s.ok) (h:evT E cts o s κ κp=some z):EvR E.P o s κ z∨EvP E.P o s κp z:=by
 unfold evT at h
 split at h
 ·rename_i x args ts ho
  split at h
  ·rename_i f first cap hx
   exact evCalls_ok (callop_value ho hx) hs (fun c hc=>hE.con c (ctsFor_mem hc)) h
  ·cases h
 ·rename_i x name args ts ho
  split at h
  ·rename_i t b hx
   split at h
   ·rename_i f hf
    exact evCalls_ok (callop_invoke ho hx (hE.meth _ _ _ (methOf_mem hf))) hs (fun c hc=>hE.con c (ctsFor_mem hc)) h
   ·cases h
  ·cases h
 ·rename_i t x ho
  split at h
  ·split at h
   ·exact .inl (evBoxF_ok ho hs h)
   ·exact .inl (evBox_ok ho hs h)
  ·cases h
 ·rename_i t ho
  split at h
  ·exact .inl (evAllocV_ok ho hs h)
  ·exact .inl (evAlloc_ok ho hs h)
 ·rename_i op t x u ho;exact .inl (evNil_ok ho h)
 ·rename_i t ps ho
  split at h
  ·exact .inl (evBuildArr_ok ho hs h)
  ·exact .inl (evBuild_ok ho hs h)
 ·rename_i t x y ho
  split at h
  ·exact .inl (evIndexArr_ok ho hs h)
  ·exact .inl (evIndex_ok ho h)
 ·rename_i t u x ho
  split at h
  ·exact .inl (evBstr_ok ho h)
  ·exact .inl (evConv_ok ho h)
 ·rename_i t x y ho
  split at h
  ·split at h
   ·exact .inl (evMakeZ_ok ho hs h)
   ·split at h
    ·exact .inl (evMakeO_ok ho hs h)
    ·exact .inl (evMake_ok ho hs h)
  ·cases h
 ·rename_i t x ho
  split at h
  ·exact .inl (evLoadO_ok ho hs h)
  ·exact .inl (evLoad_ok ho hs h)
 ·rename_i t x y ho
  split at h
  ·exact .inl (evStoreO_ok ho hs h)
  ·exact .inl (evStore_ok ho hs h)
 ·rename_i t n ps ho
  split at h
  ·exact .inl (evBuildSlO_ok ho hs h)
  ·exact .inl (evBuildSl_ok ho hs h)
 ·rename_i ho;exact .inl (evMakeMap_ok ho hs h)
 ·rename_i ho;exact .inl (evLookup_ok ho hs h)
 ·rename_i ho;exact .inl (evMapUpd_ok (.inl ho) hs h)
 ·rename_i ho;exact .inl (evMapUpd_ok (.inr ho) hs h)
 ·exact .inl (ev0_ok hs h)
inductive Want where
 | yes
 | no
 | on (t:Nat) (b c:Bool)
def wantT (ops:Array Oper) (s:TSt) (o:Oper):Option Want:=
 match o.guard with
 | none=>some .yes
 | some (j,c)=>match (ops[j]?).bind (·.dst) with
  | some t=>match look s.tm t with
   | .d ⟨.bool,b⟩=>some (.on t b c)
   | .lit (.tuple _)=>some .no
   | _=>none
  | none=>some .no
def boolOf:Value→Option Bool
 | .bool b=>some b
 | _=>none
theorem want_of {ops:Array Oper} {a:Act} {o:Oper} {j t:Nat} {c:Bool} {v:Value} (hg:o.guard=some (j,c)) (ht:(ops[j]?).bind (·.dst)=some t) (hv:a.tmps.getD t undef=v) (hu:v≠undef):
  Region.wanted o (yielded ops a.tmps)=(boolOf v==some c):=by
 have:a.tmps[t]?=some v:=by
  rcases Nat.lt_or_ge t a.tmps.size with h3 | h3
  ·simpa [h3] using hv
  ·exact absurd (by simpa [Array.getElem?_eq_none h3] using hv.symm) hu
 unfold Region.wanted
 rw [hg]
 simp only [yielded,ht,Option.bind_some,this]
 cases v<;>rfl
theorem wantT_ok {ops:Array Oper} {s:TSt} {a:Act} {o:Oper} {x:Want} (hs:SR w F O μ K s.st ft a) (h:wantT ops s o=some x):
  match x with | .yes=>Region.wanted o (yielded ops a.tmps)=true | .no=>Region.wanted o (yielded ops a.tmps)=false | .on _ b c=>Region.wanted o (yielded ops a.tmps)=(b==c):=by
 unfold wantT at h
 split at h
 ·rename_i hg
  cases h
  unfold Region.wanted
  rw [hg]
 ·rename_i j c hg
  split at h
  ·rename_i t ht
   have hv:=hs.tm t
   simp only [TSt.st] at hv
   split at h
   ·rename_i b hb
    cases h
    rw [hb] at hv
    simp only [TA.av,dav] at hv
    simp only
    rw [want_of hg ht hv.bool_inv (by simp [undef])]
    cases b<;>cases c<;>rfl
   ·rename_i l hb
    cases h
    rw [hb] at hv
    simp only [TA.av] at hv
    have hv':=hv.lit_inv
    simp only
    unfold Region.wanted
    rw [hg]
    simp only [yielded,ht,Option.bind_some]
    rcases Nat.lt_or_ge t a.tmps.size with h3 | h3
    ·have:a.tmps[t]?=some (.tuple l):=by simpa [h3] using hv'
     rw [this];simp
    ·rw [Array.getElem?_eq_none h3];simp
   ·cases h
  ·rename_i ht
   cases h
   simp only
   unfold Region.wanted
   rw [hg]
   simp [yielded,ht]
end Go.Proofs.Ytljfmaaadnoggaa.Abs
