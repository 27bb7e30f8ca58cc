/- The evaluator of operations, calls with them; a region in the text's order. No condition. -/
import Derived.Test.YtljfmaaadnoggaaGreatDoorVSA
set_option linter.unusedSimpArgs false
set_option linter.unusedVariables false
namespace Go.Proofs.YtljfmaaadnoggaaGreatDoor.cX
open Go Go.RowKit
variable {w w' xW:World} {F F' Cq O O' wx:Nat→Prop} {μ bC kZ:Nat→Nat} {K K' Gg:Nat→Prop} {ft b8:Nat→Nat→Prop} {P:Program} {R:Type}
theorem Zu (H:List (Nat×aY)) (l m:List TA):dU H (l++m)=dU H l++dU H m:=by simp [cV]
theorem Uk {o:Oper} {s:bQ} {x:Operand} {f:FuncId} {first cap:List TA} {args:List Operand} {ts:Array TypeId} (ho:o.op=.call ⟨.value x,⟨args⟩,ts⟩) (hx:s.val x=.fn (.func f) first cap):
  Uj P o s f ((first++args.map s.val)++cap):=by
 intro hc w F O μ K ft a hs
 have hv:=b9 hx hs
 simp only [TA.av] at hv
 obtain ⟨vs,us,Gp,h1,h2⟩:=hv.Ms
 refine ⟨(vs++args.map a.eval)++us,?_,by rw [Zu,Zu];exact (h1.app (Cx s args hs)).app h2⟩
 have:=hc ⟨(vs++args.map a.eval)++us⟩ w
 simp only [execOp,ho,resolve,Gp,Deferred.ofValue,Sem.run_bind,Sem.run_pure,Result.andThen_ok,invoke]
 simpa using this
def gC (P:Program) (t:TypeId) (name:String) (f:FuncId):Prop:=∀ (v:Value) (w:World),(method (P.types.size+Made.depth) t v name).run P w=.ok (f,v) w
theorem Rs {o:Oper} {s:bQ} {x:Operand} {name:String} {f:FuncId} {t:TypeId} {b:TA} {args:List Operand} {ts:Array TypeId} (ho:o.op=.call ⟨.invoke x name,⟨args⟩,ts⟩) (hx:s.val x=.pe t b) (hm:gC P t name f):
  Uj P o s f (b::args.map s.val):=by
 intro hc w F O μ K ft a hs
 have hv:=b9 hx hs
 simp only [TA.av] at hv
 obtain ⟨u,Gp,h1⟩:=hv.Dm
 refine ⟨u::args.map a.eval,?_,by simp only [dU];exact .cons h1 (Cx s args hs)⟩
 have:=hc ⟨u::args.map a.eval⟩ w
 have e:List.take args.length (args.map a.eval)=args.map a.eval:=List.take_of_length_le (by simp)
 simp [execOp,ho,resolve,Gp,invoke,callMethod,hm u w,e]
 simpa using this
def fits (c:CT) (s:bQ) (as:List TA):Bool:=
 match Gy s.H c.args as ⟨[],[]⟩ with
 | some (e1,_)=>(Gz s.H c.c6 0 e1).isSome
 | none=>false
def Lm:List CT→FuncId→bQ→List TA→(cE→Option R)→(cE→Option R)→Option R
 | [],_,_,_,_,_=>none
 | c::r,f,s,as,κ,BA=>match Nat.beq c.f f&&fits c s as with
  | true=>Yb c s as κ BA
  | false=>Lm r f s as κ BA
theorem JP {f:FuncId} {o:Oper} {s:bQ} {as:List TA} {κ BA:cE→Option R} {z:R} (ho:Uj P o s f as) (hs:s.ok):∀ {bM:List CT},(∀ c,c∈bM→aV P c)→Lm bM f s as κ BA=some z→xY P o s κ z∨EvP P o s BA z
 | [],_,h=>by cases h
 | c::r,hc,h=>by
  simp only [Lm] at h
  split at h
  ·rename_i hb
   simp only [Bool.and_eq_true] at hb
   exact aaY (hc c (by simp)) (Nat.eq_of_beq_eq_true hb.1▸ho) hs h
  ·exact JP ho hs (fun c hm=>hc c (by simp [hm])) h
def Qj:List (TypeId×String×FuncId)→TypeId→String→Option FuncId
 | [],_,_=>none
 | (t,n,f)::r,u,m=>match Nat.beq t u&&(if n=m then true else false) with
  | true=>some f
  | false=>Qj r u m
theorem Qk:∀ {l:List (TypeId×String×FuncId)} {t:TypeId} {n:String} {f:FuncId},Qj l t n=some f→(t,n,f)∈l
 | [],_,_,_,h=>by cases h
 | (t,n,f)::r,u,m,g,h=>by
  simp only [Qj] at h
  split at h
  ·rename_i hb
   simp only [Bool.and_eq_true] at hb
   cases h
   have h2:n=m:=by
    have:=hb.2
    split at this
    ·assumption
    ·cases this
   rw [Nat.eq_of_beq_eq_true hb.1,h2];simp
  ·exact List.mem_cons_of_mem _ (Qk h)
theorem aem {o:Oper} {s:fU} {x:Operand} {t:TypeId} {a:AV} {l:List AV} (ho:o.op=.box t x) (hx:ec s x a) (hl:Dt a l) (hc:∀ b,b∈l→Sh b):de P o s ⟨.fp l.length (fun j=>l.getD j .top) 0,[],[]⟩:=by
 intro w F O μ K ft act hs _ Kn Q hk
 have hv:=(hl (hx hs)).KR hc
 let ob:Obj:=.cells (act.eval x).cells t (0,0)
 have hp:=Mt w ob
 have hr:=hs.hr
 have qU:∀ b,F b→(w.alloc ob).heap[b]?=w.heap[b]?:=fun b hb=>hp.other b (hr.wf b hb) (Nat.ne_of_lt (hr.wf b hb))
 unfold Oper.wp
 have mb:(execOp act.eval o).run P w=.ok (.value (.pointer (some ⟨w.heap.size,0,none⟩))) (w.alloc ob):=by
  simp [execOp,ho,Instr.box,newVar,newRow,ob]
 rw [mb,Oper.upon_value]
 refine hk _ _ (fun b=>F b∨b=w.heap.size) O μ ft ?_ ?_ ?_<;>try simp only [jC,Hp.TL]
 ·refine .fp _ _ _ w.heap.size 0 (fun j=>(act.eval x).cells.toList.getD j undef) (.inr rfl) (fun j hj=>?_) fun j hj=>?_
  ·have h1:j < (act.eval x).cells.size:=by have:=hv.1;simp at this;omega
   have h2:(w.alloc ob).heap[w.heap.size]?=some ob:=Gh w ob
   unfold World.cell?
   simp only
   rw [h2]
   simp [ob,h1]
  ·have:=hv.2 j (by omega)
   rw [Nat.zero_add]
   exact this.mono qU (fun _ h=>.inl h) (fun _ h=>h.elim) (fun _ h=>h) fun _ h=>h.elim
 ·refine { lt:=fun id cb=>Nat.lt_of_lt_of_le (hr.lt id cb) hp.size,known:=hr.known,dw:=fun id b hb iM=>?_,self:=hr.self,own:=hr.own,dj:=hr.dj,z8:=?_,wf:=?_,rH:=fun b hb=>Nat.lt_of_lt_of_le (hr.rH b hb) hp.size,pos:=hr.pos.mono hp.size (fun _ h=>.inl h) qU }
  ·obtain ⟨o0,ho0,hB⟩:=hr.dw id b hb iM
   have cb:=hr.known id b hb
   have pw:∀ y,y < w.heap.size→(w.alloc ob).heap[y]?=w.heap[y]?:=fun y hy=>hp.other y hy (Nat.ne_of_lt hy)
   refine ⟨o0,by rw [pw _ (hr.lt id cb)];exact ho0,hB.mono qU (fun _ h=>.inl h) (fun _ _=>rfl) (fun _ h=>h) (fun i hi=>hp.shape _ (hr.lt i hi)) fun y hy _=>pw y (hr.rH y (hr.own id ⟨b,hb,iM⟩ y hy))⟩
  ·rintro b hb (hF | hF)
   ·exact hr.z8 b hb hF
   ·have:=hr.rH b hb;omega
  ·rintro b (hF | hF)
   ·exact Nat.lt_of_lt_of_le (hr.wf b hF) hp.size
   ·rw [hF];exact hp.lt
 ·refine { os:=hp.os,tape:=hp.tape,output:=hp.output,size:=hp.size,mu:=fun _ _=>rfl,Bw:=fun _ h=>.inl h,shape:=hp.shape,same:=fun b hb _=>hp.other b hb (Nat.ne_of_lt hb),Gf:=fun _ h=>.inl h,JB:=?_ }
  rintro b (hF | hF)
  ·exact .inl hF
  ·exact .inr (.inl (Nat.le_of_eq hF.symm))
def Yf (E:Env) (s:bQ) (t:TypeId) (x:TA) (κ:cE→Option R):Option R:=
 match DB s.H x,PX E.tc t with
 | some l,some q=>match tq (Ie q) l with
  | some ds=>match Ok q ds with
   | some y=>κ ⟨.fp q y 0,[],0⟩
   | none=>none
  | none=>none
 | _,_=>none
theorem aaZ {E:Env} {o:Oper} {s:bQ} {κ:cE→Option R} {z:R} {x:Operand} {t:TypeId} (ho:o.op=.box t x) (hs:s.ok) (h:Yf E s t (s.val x) κ=some z):xY E.P o s κ z:=by
 unfold Yf at h
 split at h
 ·rename_i l q hl hq
  split at h
  ·rename_i ds tC
   split at h
   ·rename_i y hy
    obtain ⟨h1,h2⟩:=zY hl (gy hs x)
    obtain ⟨d1,d2,d3,d4⟩:=n9 tC
    have nA:=aem (P:=E.P) ho (gj s x) h1 (DD tC s.H).1
    refine kr h nA ?_ (by simp only [TA.wf])
    simp only [TA.av]
    have hlen:(dU s.H l).length=fg q:=by
     rw [bI,← d1,← e9 q y,eU hy]
    rw [hlen]
    intro w F μ K v hv
    have tp:∀ j,(sV q y).getD j .top=(ds.map cN).getD j .top:=fun j=>by rw [← fx,eU hy]
    cases hv with
    | fp _ _ _ b o' u hF hu hv=>
     refine .fp _ _ _ b o' u hF hu fun j hj=>?_
     have:=hv j hj
     rw [tp,Nat.zero_add]
     rw [Nat.zero_add] at hj
     simp only [Nat.zero_add] at this
     have R9:j < l.length:=by rw [bI] at hlen;omega
     rw [dH _ _ _ R9] at this
     exact d4 s.H j R9 this
   ·cases h
  ·cases h
 ·cases h
theorem aa0 {o:Oper} {s:fU} {t:TypeId} {N bB:Nat} {e:Nat→Nat→AV} (ho:o.op=.alloc t) (hz:Cs P t=some [.ff]):de P o s ⟨.bp N 0,[(N,some (.box [.ff])),(N+1,some (.row true bB 0 e))],[N,N+1]⟩:=by
 intro w F O μ K ft a hs Gr Kn Q hk
 refine VP (N:=N) ho hz w F O μ K ft a hs (fun id cb=>Gr id (by simp only [List.mem_cons,List.not_mem_nil,or_false] at cb ⊢;exact .inl cb)) Kn Q fun v w' F' O' bC b8 hv hr hf=>?_
 have hN:¬ plus K [N] (N+1):=by
  rintro (h | h)
  ·exact Gr (N+1) (by simp) h
  ·simp at h
 obtain ⟨k1,k2⟩:=G3 (bB:=bB) (e:=e) hr hN
 have e1:plus (plus K [N]) [N+1]=plus K [N,N+1]:=by
  funext id;simp only [plus,List.mem_cons,List.not_mem_nil,or_false,eq_iff_iff,or_assoc]
 have e2:(s.H.c_ [(N,some (.box [.ff]))]).c_ [(N+1,some (.row true bB 0 e))]=s.H.c_ [(N,some (.box [.ff])),(N+1,some (.row true bB 0 e))]:=by
  funext id
  simp only [Hp.c_]
  by_cases h1:id=N
  ·subst h1;simp
  ·simp [h1]
 rw [e1] at k1
 rw [e2] at k1
 refine hk v w' F' O' (KV bC (N+1) 0) b8 ?_ k1 ((hf.trans (k2.QQ fun id h=>.inl h)))
 have LG:VR w' F' bC (plus K [N]) (.bp N 0) v:=hv
 exact LG.mono (fun _ _=>rfl) (fun _ h=>h) (fun id cb=>k2.mu id cb) (fun id cb=>by
  rcases cb with h | h
  ·exact .inl h
  ·exact .inr (by simp only [List.mem_cons,List.not_mem_nil,or_false] at h ⊢;exact .inl h)) fun _ _=>rfl
def ae8 (E:Env) (t:TypeId):Option Ty:=match E.P.underlying t with
 | some (.slice et)=>PX E.tc et
 | _=>none
def varOf (d:Bool) (q:Ty):RV:=match d with
 | true=>kindOf q
 | false=>.vs
theorem aen (d:Bool) (q:Ty):(varOf d q).b=true:=by cases d<;>first | rfl | exact P8 q
def Ql (E:Env) (s:bQ) (t:TypeId) (d:Bool) (q:Ty) (κ:cE→Option R):Option R:=
 match Gv E.P t with
 | some [.ff]=>κ ⟨.bp s.N 0,[(s.N,some (.box [.ow (s.N+1)])),(s.N+1,some (.row q (varOf d q) []))],2⟩
 | _=>none
theorem Wk {E:Env} {o:Oper} {s:bQ} {κ:cE→Option R} {z:R} {t:TypeId} {q:Ty} {d:Bool} (ho:o.op=.alloc t) (hs:s.ok) (h:Ql E s t d q κ=some z):xY E.P o s κ z:=by
 have hkb:=aen d q
 unfold Ql at h
 generalize varOf d q=kd at h hkb
 split at h
 ·rename_i hz
  have hz':=(tu hz s.H s.N).1
  simp only [dU,TA.av] at hz'
  have nA:=aa0 (N:=s.N) (s:=s.st) (bB:=fg q) (e:=bY kd q []) ho hz'
  have jM:Sub s.H (cD s.H [(s.N,some (.box [.ow (s.N+1)])),(s.N+1,some (.row q kd []))]) s.N:=fun id cb=>by
   simp only [cD,aR]
   rw [cl (by omega),cl (by omega)]
  refine ⟨⟨.bp s.N 0,[(s.N,some (.box [.ow (s.N+1)])),(s.N+1,some (.row q kd []))],2⟩,⟨_,_,nA,?_,?_,?_⟩,⟨jM,?_,?_⟩,h⟩
  ·simp only [TA.av];exact (@iu.refl _)
  ·intro id cb;simpa using cb
  ·intro id b' cu
   obtain ⟨c,hc,hcv,rfl⟩:=iv cu
   simp only [bQ.next,cD,aR] at hc
   simp only [Hp.c_,ahM]
   cases e1:Nat.beq id s.N with
   | true=>
    rw [e1] at hc
    have e:=Nat.eq_of_beq_eq_true e1
    subst e
    cases hc
    refine ⟨_,if_pos rfl,?_⟩
    simp only [aY.dw,dU,TA.av,bQ.next,cD,aR,cl (show ¬ s.N+1=s.N by omega),Nat.beq_refl,fM,List.length_nil,hkb,dr]
    refine VU rfl fun k hk=>?_
    have:k=0:=by simpa using hk
    subst this
    intro w F μ K v hv
    have hv:VR w F μ K .ff v:=hv
    rw [hv.pY]
    exact .xV _ _ _
   | false=>
    rw [e1] at hc
    have pw:=Nat.ne_of_beq_eq_false e1
    rw [if_neg pw]
    cases e2:Nat.beq id (s.N+1) with
    | true=>
     rw [e2] at hc
     have e:=Nat.eq_of_beq_eq_true e2
     subst e
     cases hc
     refine ⟨_,if_pos rfl,?_⟩
     simp only [aY.dw,hkb,List.length_nil]
     exact eV.refl _
    | false=>
     rw [e2] at hc
     rw [if_neg (Nat.ne_of_beq_eq_false e2)]
     refine ⟨_,MC hc hcv,?_⟩
     rw [show (s.next _).H=cD s.H [(s.N,some (.box [.ow (s.N+1)])),(s.N+1,some (.row q kd []))] from rfl,qy jM (hs.H id _ hc)]
     exact eV.refl _
  ·simp only [TA.wf]
  ·intro id l hm
   simp only [List.mem_cons,List.not_mem_nil,or_false,Prod.mk.injEq,Option.some.injEq] at hm
   rcases hm with ⟨rfl,h1⟩ | ⟨rfl,h1⟩
   ·cases h1
    simp only [aY.refs,iw,TA.wf,and_true]
    omega
   ·rw [h1];simp only [aY.refs,iw]
 ·cases h
def yk:List Nat→Nat→Bool
 | [],_=>false
 | i::r,k=>match Nat.beq k i with
  | true=>true
  | false=>yk r k
def aeo (op:BinOp) (b:Bool) (κ:cE→Option R):Option R:=match op with
 | .eql=>κ ⟨.d ⟨.bool,b⟩,[],0⟩
 | .neq=>κ ⟨.d ⟨.bool,!b⟩,[],0⟩
 | _=>none
def acN (P:Program) (op:BinOp) (t:TypeId) (x:TA) (κ:cE→Option R):Option R:=match P.underlying t with
 | some (.interface _)=>match x with
  | .lit .nilIface=>aeo op true κ
  | .pe _ _=>aeo op false κ
  | _=>none
 | _=>none
theorem eval_nil (a:Act):a.eval (.const .nilIface)=.nilIface:=rfl
theorem N9 (n:Nat) {t:TypeId} {ms:Array (String×TypeId)} (ht:P.underlying t=some (.interface ms)):(Op.equalIn (n+1) t .nilIface .nilIface).run P w=.ok true w∧∀ u v,(Op.equalIn (n+1) t (.iface u v) .nilIface).run P w=.ok false w:=by
 constructor
 ·simp [Op.equalIn,ct ht]
 ·intro u v;simp [Op.equalIn,ct ht]
theorem vq {t:TypeId} {ms:Array (String×TypeId)} (ht:P.underlying t=some (.interface ms)):(Op.equal t .nilIface .nilIface).run P w=.ok true w∧∀ u v,(Op.equal t (.iface u v) .nilIface).run P w=.ok false w:=N9 9999 ht
theorem acO {o:Oper} {s:bQ} {κ:cE→Option R} {z:R} {op:BinOp} {t u:TypeId} {x:Operand} (ho:o.op=.binOp op t x (.const .nilIface) u) (h:acN P op t (s.val x) κ=some z):xY P o s κ z:=by
 unfold acN at h
 split at h
 ·rename_i ms ht
  split at h
  ·rename_i hx
   have h1:ec s.st x (.lit .nilIface):=b9 hx
   have key:∀ b,(op=.eql∧b=true)∨(op=.neq∧b=false)→de P o s.st ⟨.bool b,[],[]⟩:=fun b hb=>cd fun {w F O μ K ft a} hs=>by
    have hv:=(h1 hs).KT
    rcases hb with ⟨rfl,rfl⟩ | ⟨rfl,rfl⟩
    ·refine ⟨.bool true,?_,.bool _⟩
     simp [execOp,ho,eqGuard,hv,eval_nil,binOp,(vq ht).1]
    ·refine ⟨.bool false,?_,.bool _⟩
     simp [execOp,ho,eqGuard,hv,eval_nil,binOp,(vq ht).1]
   unfold aeo at h
   split at h
   ·exact oa h (key true (.inl ⟨rfl,rfl⟩))
   ·exact oa h (key false (.inr ⟨rfl,rfl⟩))
   ·cases h
  ·rename_i q y hx
   have h1:ec s.st x ((TA.pe q y).av s.H):=b9 hx
   have key:∀ b,(op=.eql∧b=false)∨(op=.neq∧b=true)→de P o s.st ⟨.bool b,[],[]⟩:=fun b hb=>cd fun {w F O μ K ft a} hs=>by
    have h2:=h1 hs
    simp only [TA.av] at h2
    obtain ⟨v,hv,_⟩:=h2.Dm
    rcases hb with ⟨rfl,rfl⟩ | ⟨rfl,rfl⟩
    ·refine ⟨.bool false,?_,.bool _⟩
     simp [execOp,ho,eqGuard,hv,eval_nil,binOp,(vq ht).2]
    ·refine ⟨.bool true,?_,.bool _⟩
     simp [execOp,ho,eqGuard,hv,eval_nil,binOp,(vq ht).2]
   unfold aeo at h
   split at h
   ·exact oa h (key false (.inl ⟨rfl,rfl⟩))
   ·exact oa h (key true (.inr ⟨rfl,rfl⟩))
   ·cases h
  ·cases h
 ·cases h
def ajm (P:Program) (H:List (Nat×aY)) (t:TypeId):TA→Bool
 | .rp id _ off=>match aR H id with
  | some (.row u v _)=>match P.underlying t,P.info? t with
   | some d,some ti=>v.d&&aaG u off (cond (KY d) ti.size 1)
   | _,_=>false
  | _=>false
 | _=>false
def rpD (H:List (Nat×aY)):TA→Bool
 | .rp id _ _=>match aR H id with
  | some (.row _ v _)=>v.d
  | _=>false
 | _=>false
def aep (E:Env):Option Nat→Bool
 | some d=>yk E.dp d
 | none=>false
def MP (E:Env) (d:Option Nat) (bM:List CT):List CT:=match aep E d with
 | true=>bM.reverse
 | false=>bM
theorem Qm {E:Env} {d:Option Nat} {bM:List CT} {c:CT} (h:c∈MP E d bM):c∈bM:=by
 unfold MP at h
 split at h
 ·exact List.mem_reverse.1 h
 ·exact h
def evT (E:Env) (bM:List CT) (o:Oper) (s:bQ) (κ BA:cE→Option R):Option R:=
 match o.op with
 | .call ⟨.value x,⟨args⟩,_⟩=>match s.val x with
  | .fn (.func f) first cap=>Lm (MP E o.dst bM) f s ((first++args.map s.val)++cap) κ BA
  | _=>none
 | .call ⟨.invoke x name,⟨args⟩,_⟩=>match s.val x with
  | .pe t b=>match Qj E.mt t name with
   | some f=>Lm (MP E o.dst bM) f s (b::args.map s.val) κ BA
   | none=>none
  | _=>none
 | .box t x=>match o.dst with
  | some d=>match yk E.fz d with
   | true=>Yf E s t (s.val x) κ
   | false=>Zi s (s.val x) κ
  | none=>none
 | .alloc t=>match ae8 E t with
  | some q=>Ql E s t (aep E o.dst) q κ
  | none=>Om E.P s t κ
 | .binOp op t x (.const .nilIface) _=>acN E.P op t (s.val x) κ
 | .build t ⟨ps⟩=>match E.P.underlying t with
  | some (.array _ _)=>JQ E.P s t ps κ
  | _=>Oq E.P s t ps κ
 | .index t x y=>match E.P.underlying t with
  | some (.array _ _)=>JR E.P t (s.val x) (s.val y) κ
  | _=>Ol E.P t (s.val x) (s.val y) κ
 | .convert t u x=>match E.P.underlying t with
  | some (.slice _)=>Yg E.P s t u (s.val x) κ
  | _=>T3 E.P t u (s.val x) κ
 | .makeSlice t x y=>match o.dst with
  | some d=>match yk E.fz d with
   | true=>T9 E s t (s.val x) (s.val y) κ
   | false=>match yk E.dp d with
    | true=>Ug E s t (Qe x y) (s.val x) (s.val y) κ
    | false=>T8 E s t (s.val x) (s.val y) κ
  | none=>none
 | .load t x=>match ajm E.P s.H t (s.val x) with
  | true=>Uf E.P s t (s.val x) κ
  | false=>T5 E.P s.H t (s.val x) κ
 | .store t x y=>match rpD s.H (s.val x) with
  | true=>Qd E.P s.H t (s.val x) (s.val y) κ
  | false=>On E.P s.H t (s.val x) (s.val y) κ
 | .buildSlice t n ⟨ps⟩=>match aep E o.dst with
  | true=>JN E s t n ps κ
  | false=>G9 E s t n ps κ
 | .makeMap t none=>MQ E s t κ
 | .lookup t x k ok=>Qn E s t (s.val x) (s.val k) ok κ
 | .mapUpdate t m k x=>Ln E s t (s.val m) (s.val k) (s.val x) κ
 | .insert t m k x=>Ln E s t (s.val m) (s.val k) (s.val x) κ
 | .call ⟨.builtin .delete,⟨[m,k]⟩,⟨[t,_]⟩⟩=>Qo E s t (s.val m) (s.val k) κ
 | _=>ev0 E o s κ
structure xZ (E:Env) (bM:List CT):Prop where
 con:∀ c,c∈bM→aV E.P c
 ahX:∀ t n f,(t,n,f)∈E.mt→gC E.P t n f
theorem Yh {E:Env} {bM:List CT} {o:Oper} {s:bQ} {κ BA:cE→Option R} {z:R} (hE:xZ E bM) (hs:s.ok) (h:evT E bM o s κ BA=some z):xY E.P o s κ z∨EvP E.P o s BA z:=by
 unfold evT at h
 split at h
 ·rename_i x args ts ho
  split at h
  ·rename_i f first cap hx
   exact JP (Uk ho hx) hs (fun c hc=>hE.con c (Qm hc)) h
  ·cases h
 ·rename_i x name args ts ho
  split at h
  ·rename_i t b hx
   split at h
   ·rename_i f hf
    exact JP (Rs ho hx (hE.ahX _ _ _ (Qk hf))) hs (fun c hc=>hE.con c (Qm hc)) h
   ·cases h
  ·cases h
 ·rename_i t x ho
  split at h
  ·split at h
   ·exact .inl (aaZ ho hs h)
   ·exact .inl (VZ ho hs h)
  ·cases h
 ·rename_i t ho
  split at h
  ·exact .inl (Wk ho hs h)
  ·exact .inl (P4 ho hs h)
 ·rename_i op t x u ho;exact .inl (acO ho h)
 ·rename_i t ps ho
  split at h
  ·exact .inl (Rt ho hs h)
  ·exact .inl (P6 ho hs h)
 ·rename_i t x y ho
  split at h
  ·exact .inl (Ru ho hs h)
  ·exact .inl (PZ ho h)
 ·rename_i t u x ho
  split at h
  ·exact .inl (aa1 ho h)
  ·exact .inl (Sn ho h)
 ·rename_i t x y ho
  split at h
  ·split at h
   ·exact .inl (XY ho hs h)
   ·split at h
    ·exact .inl (X7 ho hs h)
    ·exact .inl (Sp ho hs h)
  ·cases h
 ·rename_i t x ho
  split at h
  ·exact .inl (X6 ho hs h)
  ·exact .inl (So ho hs h)
 ·rename_i t x y ho
  split at h
  ·exact .inl (Wb ho hs h)
  ·exact .inl (P5 ho hs h)
 ·rename_i t n ps ho
  split at h
  ·exact .inl (Rr ho hs h)
  ·exact .inl (Ld ho hs h)
 ·rename_i ho;exact .inl (Ul ho hs h)
 ·rename_i ho;exact .inl (Wl ho hs h)
 ·rename_i ho;exact .inl (NH (.inl ho) hs h)
 ·rename_i ho;exact .inl (NH (.inr ho) hs h)
 ·rename_i ho;exact .inl (Wm ho hs h)
 ·exact .inl (agA hs h)
inductive Want where
 | yes
 | no
 | on (t:Nat) (b c:Bool)
def Qp (ops:Array Oper) (s:bQ) (o:Oper):Option Want:=
 match o.guard with
 | none=>some .yes
 | some (j,c)=>match (ops[j]?).bind (·.dst) with
  | some t=>match look s.tm t with
   | .d ⟨.bool,b⟩=>some (.on t b c)
   | .lit (.tuple _)=>some .no
   | _=>none
  | none=>some .no
def agG:Value→Option Bool
 | .bool b=>some b
 | _=>none
theorem aeq {ops:Array Oper} {a:Act} {o:Oper} {j t:Nat} {c:Bool} {v:Value} (hg:o.guard=some (j,c)) (ht:(ops[j]?).bind (·.dst)=some t) (hv:a.tmps.getD t undef=v) (hu:v≠undef):
  Region.wanted o (yielded ops a.tmps)=(agG v==some c):=by
 have:a.tmps[t]?=some v:=by
  rcases Nat.lt_or_ge t a.tmps.size with h3 | h3
  ·simpa [h3] using hv
  ·exact absurd (by simpa [Array.getElem?_eq_none h3] using hv.symm) hu
 unfold Region.wanted
 rw [hg]
 simp only [yielded,ht,Option.bind_some,this]
 cases v<;>rfl
theorem pZ {ops:Array Oper} {s:bQ} {a:Act} {o:Oper} {x:Want} (hs:SR w F O μ K s.st ft a) (h:Qp ops s o=some x):
  match x with | .yes=>Region.wanted o (yielded ops a.tmps)=true | .no=>Region.wanted o (yielded ops a.tmps)=false | .on _ b c=>Region.wanted o (yielded ops a.tmps)=(b==c):=by
 unfold Qp at h
 split at h
 ·rename_i hg
  cases h
  unfold Region.wanted
  rw [hg]
 ·rename_i j c hg
  split at h
  ·rename_i t ht
   have hv:=hs.tm t
   simp only [bQ.st] at hv
   split at h
   ·rename_i b hb
    cases h
    rw [hb] at hv
    simp only [TA.av,cN] at hv
    simp only
    rw [aeq hg ht hv.eR (by simp [undef])]
    cases b<;>cases c<;>rfl
   ·rename_i l hb
    cases h
    rw [hb] at hv
    simp only [TA.av] at hv
    have Mv:=hv.KT
    simp only
    unfold Region.wanted
    rw [hg]
    simp only [yielded,ht,Option.bind_some]
    rcases Nat.lt_or_ge t a.tmps.size with h3 | h3
    ·have:a.tmps[t]?=some (.tuple l):=by simpa [h3] using Mv
     rw [this];simp
    ·rw [Array.getElem?_eq_none h3];simp
   ·cases h
  ·rename_i ht
   cases h
   simp only
   unfold Region.wanted
   rw [hg]
   simp [yielded,ht]
end Go.Proofs.YtljfmaaadnoggaaGreatDoor.cX
