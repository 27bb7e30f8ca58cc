/- The evaluator of operations, calls with them; a region in the text's order. No condition. -/
import Derived.Test.YtjkbbdldmdajkaaGreatDoorVSA
set_option linter.unusedSimpArgs false
set_option linter.unusedVariables false
namespace Go.Proofs.YtjkbbdldmdajkaaGreatDoor.c_
open Go Go.RowKit
variable {w w' xk:World} {F F' Bs O O' v8:Nat→Prop} {μ bC lG:Nat→Nat} {K K' EF:Nat→Prop} {ft bZ:Nat→Nat→Prop} {P:Program} {R:Type}
theorem WT (H:List (Nat×aY)) (l m:List TA):dD H (l++m)=dD H l++dD H m:=by simp [c7]
theorem R2 {o:Oper} {s:bP} {x:Operand} {f:FuncId} {first cap:List TA} {args:List Operand} {ts:Array TypeId} (ho:o.op=.call ⟨.value x,⟨args⟩,ts⟩) (hx:s.val x=.fn (.func f) first cap):
  R1 P o s f ((first++args.map s.val)++cap):=by
 intro hc w F O μ K ft a hs;have hv:=bX hx hs;simp only [TA.av] at hv;obtain ⟨vs,us,EO,h1,h2⟩:=hv.Kq;refine ⟨(vs++args.map a.eval)++us,?_,by rw [WT,WT];exact (h1.app (Bx s args hs)).app h2⟩;have:=hc ⟨(vs++args.map a.eval)++us⟩ w;simp only [execOp,ho,resolve,EO,Deferred.ofValue,Sem.run_bind,Sem.run_pure,Result.andThen_ok,invoke];simpa using this
def gK (P:Program) (t:TypeId) (name:String) (f:FuncId):Prop:=∀ (v:Value) (w:World),(method (P.types.size+Made.depth) t v name).run P w=.ok (f,v) w
theorem Py {o:Oper} {s:bP} {x:Operand} {name:String} {f:FuncId} {t:TypeId} {b:TA} {args:List Operand} {ts:Array TypeId} (ho:o.op=.call ⟨.invoke x name,⟨args⟩,ts⟩) (hx:s.val x=.pK t b) (hm:gK P t name f):
  R1 P o s f (b::args.map s.val):=by
 intro hc w F O μ K ft a hs;have hv:=bX hx hs;simp only [TA.av] at hv;obtain ⟨u,EO,h1⟩:=hv.Co;refine ⟨u::args.map a.eval,?_,by simp only [dD];exact .cons h1 (Bx s args hs)⟩;have:=hc ⟨u::args.map a.eval⟩ w;have e:List.take args.length (args.map a.eval)=args.map a.eval:=List.take_of_length_le (by simp);simp [execOp,ho,resolve,EO,invoke,callMethod,hm u w,e];simpa using this
def fits (c:CT) (s:bP) (as:List TA):Bool:=
 match CF s.H c.args as ⟨[],[]⟩ with
 | some (e1,_)=>(EX s.H c.dc 0 e1).isSome
 | none=>false
def Jq:List CT→FuncId→bP→List TA→(cx→Option R)→(cx→Option R)→Option R
 | [],_,_,_,_,_=>none
 | c::r,f,s,as,κ,Az=>match Nat.beq c.f f&&fits c s as with
  | true=>VJ c s as κ Az
  | false=>Jq r f s as κ Az
theorem H3 {f:FuncId} {o:Oper} {s:bP} {as:List TA} {κ Az:cx→Option R} {z:R} (ho:R1 P o s f as) (hs:s.ok):∀ {bN:List CT},(∀ c,c∈bN→aU P c)→Jq bN f s as κ Az=some z→wg P o s κ z∨EvP P o s Az z
 | [],_,h=>by cases h
 | c::r,hc,h=>by
  simp only [Jq] at h;split at h
  ·rename_i hb;simp only [Bool.and_eq_true] at hb;exact Yv (hc c (by simp)) (Nat.eq_of_beq_eq_true hb.1▸ho) hs h
  ·exact H3 ho hs (fun c hm=>hc c (by simp [hm])) h
def Og:List (TypeId×String×FuncId)→TypeId→String→Option FuncId
 | [],_,_=>none
 | (t,n,f)::r,u,m=>match Nat.beq t u&&(if n=m then true else false) with
  | true=>some f
  | false=>Og r u m
theorem Oh:∀ {l:List (TypeId×String×FuncId)} {t:TypeId} {n:String} {f:FuncId},Og l t n=some f→(t,n,f)∈l
 | [],_,_,_,h=>by cases h
 | (t,n,f)::r,u,m,g,h=>by
  simp only [Og] at h;split at h
  ·rename_i hb;simp only [Bool.and_eq_true] at hb;cases h;have h2:n=m:=by
    have:=hb.2;split at this
    ·assumption
    ·cases this
   rw [Nat.eq_of_beq_eq_true hb.1,h2];simp
  ·exact List.mem_cons_of_mem _ (Oh h)
theorem acv {o:Oper} {s:fT} {x:Operand} {t:TypeId} {a:AV} {l:List AV} (ho:o.op=.box t x) (hx:ee s x a) (hl:Cu a l) (hc:∀ b,b∈l→Qb b):dr P o s ⟨.fp l.length (fun j=>l.getD j .top) 0,[],[]⟩:=by
 intro w F O μ K ft act hs _ Kn Q hk;have hv:=(hl (hx hs)).IY hc
 let ob:Obj:=.cells (act.eval x).cells t (0,0)
 have hp:=Kr w ob;have hr:=hs.hr;have qc:∀ b,F b→(w.alloc ob).heap[b]?=w.heap[b]?:=fun b hb=>hp.other b (hr.wf b hb) (Nat.ne_of_lt (hr.wf b hb));unfold Oper.wp;have lH:(execOp act.eval o).run P w=.ok (.value (.pointer (some ⟨w.heap.size,0,none⟩))) (w.alloc ob):=by
  simp [execOp,ho,Instr.box,newVar,newRow,ob]
 rw [lH,Oper.upon_value];refine hk _ _ (fun b=>F b∨b=w.heap.size) O μ ft ?_ ?_ ?_<;>try simp only [jE,Hp.Rq]
 ·refine .fp _ _ _ w.heap.size 0 (fun j=>(act.eval x).cells.toList.getD j undef) (.inr rfl) (fun j hj=>?_) fun j hj=>?_
  ·have h1:j < (act.eval x).cells.size:=by have:=hv.1;simp at this;omega
   have h2:(w.alloc ob).heap[w.heap.size]?=some ob:=EH w ob;unfold World.cell?;simp only;rw [h2];simp [ob,h1]
  ·have:=hv.2 j (by omega);rw [Nat.zero_add];exact this.mono qc (fun _ h=>.inl h) (fun _ h=>h.elim) (fun _ h=>h) fun _ h=>h.elim
 ·refine { lt:=fun id bY=>Nat.lt_of_lt_of_le (hr.lt id bY) hp.size,known:=hr.known,dC:=fun id b hb gQ=>?_,self:=hr.self,own:=hr.own,dj:=hr.dj,zc:=?_,wf:=?_,rT:=fun b hb=>Nat.lt_of_lt_of_le (hr.rT b hb) hp.size,pos:=hr.pos.mono hp.size (fun _ h=>.inl h) qc }
  ·obtain ⟨o0,ho0,hB⟩:=hr.dC id b hb gQ;have bY:=hr.known id b hb;have qL:∀ y,y < w.heap.size→(w.alloc ob).heap[y]?=w.heap[y]?:=fun y hy=>hp.other y hy (Nat.ne_of_lt hy);refine ⟨o0,by rw [qL _ (hr.lt id bY)];exact ho0,hB.mono qc (fun _ h=>.inl h) (fun _ _=>rfl) (fun _ h=>h) (fun i hi=>hp.shape _ (hr.lt i hi)) fun y hy _=>qL y (hr.rT y (hr.own id ⟨b,hb,gQ⟩ y hy))⟩
  ·rintro b hb (hF | hF)
   ·exact hr.zc b hb hF
   ·have:=hr.rT b hb;omega
  ·rintro b (hF | hF)
   ·exact Nat.lt_of_lt_of_le (hr.wf b hF) hp.size
   ·rw [hF];exact hp.lt
 ·refine { os:=hp.os,tape:=hp.tape,output:=hp.output,size:=hp.size,mu:=fun _ _=>rfl,Aw:=fun _ h=>.inl h,shape:=hp.shape,same:=fun b hb _=>hp.other b hb (Nat.ne_of_lt hb),EE:=fun _ h=>.inl h,HK:=?_ }
  rintro b (hF | hF)
  ·exact .inl hF
  ·exact .inr (.inl (Nat.le_of_eq hF.symm))
def VM (E:Env) (s:bP) (t:TypeId) (x:TA) (κ:cx→Option R):Option R:=
 match CB s.H x,L5 E.tc t with
 | some l,some q=>match tf (Gr q) l with
  | some ds=>match Mg q ds with
   | some y=>κ ⟨.fp q y 0,[],0⟩
   | none=>none
  | none=>none
 | _,_=>none
theorem Yw {E:Env} {o:Oper} {s:bP} {κ:cx→Option R} {z:R} {x:Operand} {t:TypeId} (ho:o.op=.box t x) (hs:s.ok) (h:VM E s t (s.val x) κ=some z):wg E.P o s κ z:=by
 unfold VM at h;split at h
 ·rename_i l q hl hq;split at h
  ·rename_i ds tt;split at h
   ·rename_i y hy;obtain ⟨h1,h2⟩:=y6 hl (gf hs x);obtain ⟨d1,d2,d3,d4⟩:=oB tt;have m_:=acv (P:=E.P) ho (gE s x) h1 (CD tt s.H).1;refine kK h m_ ?_ (by simp only [TA.wf]);simp only [TA.av];have hlen:(dD s.H l).length=fy q:=by
     rw [bB,← d1,← fo q y,ff hy]
    rw [hlen];intro w F μ K v hv;have te:∀ j,(sW q y).getD j .top=(ds.map cR).getD j .top:=fun j=>by rw [← fJ,ff hy]
    cases hv with
    | fp _ _ _ b o' u hF hu hv=>
     refine .fp _ _ _ b o' u hF hu fun j hj=>?_;have:=hv j hj;rw [te,Nat.zero_add];rw [Nat.zero_add] at hj;simp only [Nat.zero_add] at this;have TI:j < l.length:=by rw [bB] at hlen;omega
     rw [dx _ _ _ TI] at this;exact d4 s.H j TI this
   ·cases h
  ·cases h
 ·cases h
theorem Yx {o:Oper} {s:fT} {t:TypeId} {N bA:Nat} {e:Nat→Nat→AV} (ho:o.op=.alloc t) (hz:z_ P t=some [.fB]):dr P o s ⟨.bp N 0,[(N,some (.box [.fB])),(N+1,some (.row true bA 0 e))],[N,N+1]⟩:=by
 intro w F O μ K ft a hs ES Kn Q hk;refine Ts (N:=N) ho hz w F O μ K ft a hs (fun id bY=>ES id (by simp only [List.mem_cons,List.not_mem_nil,or_false] at bY ⊢;exact .inl bY)) Kn Q fun v w' F' O' bC bZ hv hr hf=>?_;have hN:¬ plus K [N] (N+1):=by
  rintro (h | h)
  ·exact ES (N+1) (by simp) h
  ·simp at h
 obtain ⟨k1,k2⟩:=xL (bA:=bA) (e:=e) hr hN;have e1:plus (plus K [N]) [N+1]=plus K [N,N+1]:=by
  funext id;simp only [plus,List.mem_cons,List.not_mem_nil,or_false,eq_iff_iff,or_assoc]
 have e2:(s.H.dh [(N,some (.box [.fB]))]).dh [(N+1,some (.row true bA 0 e))]=s.H.dh [(N,some (.box [.fB])),(N+1,some (.row true bA 0 e))]:=by
  funext id;simp only [Hp.dh];by_cases h1:id=N
  ·subst h1;simp
  ·simp [h1]
 rw [e1] at k1;rw [e2] at k1;refine hk v w' F' O' (Ic bC (N+1) 0) bZ ?_ k1 ((hf.trans (k2.OT fun id h=>.inl h)));have JI:VR w' F' bC (plus K [N]) (.bp N 0) v:=hv;exact JI.mono (fun _ _=>rfl) (fun _ h=>h) (fun id bY=>k2.mu id bY) (fun id bY=>by
  rcases bY with h | h
  ·exact .inl h
  ·exact .inr (by simp only [List.mem_cons,List.not_mem_nil,or_false] at h ⊢;exact .inl h)) fun _ _=>rfl
def adf (E:Env) (t:TypeId):Option Ty:=match E.P.underlying t with
 | some (.slice et)=>L5 E.tc et
 | _=>none
def varOf (d:Bool) (q:Ty):RV:=match d with
 | true=>kindOf q
 | false=>.vs
theorem acw (d:Bool) (q:Ty):(varOf d q).b=true:=by cases d<;>first | rfl | exact N3 q
def Oj (E:Env) (s:bP) (t:TypeId) (d:Bool) (q:Ty) (κ:cx→Option R):Option R:=
 match Dd E.P t with
 | some [.fB]=>κ ⟨.bp s.N 0,[(s.N,some (.box [.ow (s.N+1)])),(s.N+1,some (.row q (varOf d q) []))],2⟩
 | _=>none
theorem TZ {E:Env} {o:Oper} {s:bP} {κ:cx→Option R} {z:R} {t:TypeId} {q:Ty} {d:Bool} (ho:o.op=.alloc t) (hs:s.ok) (h:Oj E s t d q κ=some z):wg E.P o s κ z:=by
 have hkb:=acw d q;unfold Oj at h;generalize varOf d q=kd at h hkb;split at h
 ·rename_i hz;have hz':=(qf hz s.H s.N).1;simp only [dD,TA.av] at hz';have m_:=Yx (N:=s.N) (s:=s.st) (bA:=fy q) (e:=bV kd q []) ho hz';have jO:Sub s.H (cD s.H [(s.N,some (.box [.ow (s.N+1)])),(s.N+1,some (.row q kd []))]) s.N:=fun id bY=>by
   simp only [cD,aT];rw [cd (by omega),cd (by omega)]
  refine ⟨⟨.bp s.N 0,[(s.N,some (.box [.ow (s.N+1)])),(s.N+1,some (.row q kd []))],2⟩,⟨_,_,m_,?_,?_,?_⟩,⟨jO,?_,?_⟩,h⟩
  ·simp only [TA.av];exact (@il.refl _)
  ·intro id bY;simpa using bY
  ·intro id b' cl;obtain ⟨c,hc,hcv,rfl⟩:=iA cl;simp only [bP.next,cD,aT] at hc;simp only [Hp.dh,afp];cases e1:Nat.beq id s.N with
   | true=>
    rw [e1] at hc;have e:=Nat.eq_of_beq_eq_true e1;subst e;cases hc;refine ⟨_,if_pos rfl,?_⟩;simp only [aY.dC,dD,TA.av,bP.next,cD,aT,cd (show ¬ s.N+1=s.N by omega),Nat.beq_refl,fH,List.length_nil,hkb,du];refine Tw rfl fun k hk=>?_;have:k=0:=by simpa using hk
    subst this;intro w F μ K v hv;have hv:VR w F μ K .fB v:=hv;rw [hv.qd];exact .s9 _ _ _
   | false=>
    rw [e1] at hc;have qL:=Nat.ne_of_beq_eq_false e1;rw [if_neg qL];cases e2:Nat.beq id (s.N+1) with
    | true=>
     rw [e2] at hc;have e:=Nat.eq_of_beq_eq_true e2;subst e;cases hc;refine ⟨_,if_pos rfl,?_⟩;simp only [aY.dC,hkb,List.length_nil];exact eQ.refl _
    | false=>
     rw [e2] at hc;rw [if_neg (Nat.ne_of_beq_eq_false e2)];refine ⟨_,KA hc hcv,?_⟩;rw [show (s.next _).H=cD s.H [(s.N,some (.box [.ow (s.N+1)])),(s.N+1,some (.row q kd []))] from rfl,qN jO (hs.H id _ hc)];exact eQ.refl _
  ·simp only [TA.wf]
  ·intro id l hm;simp only [List.mem_cons,List.not_mem_nil,or_false,Prod.mk.injEq,Option.some.injEq] at hm;rcases hm with ⟨rfl,h1⟩ | ⟨rfl,h1⟩
   ·cases h1;simp only [aY.refs,im,TA.wf,and_true];omega
   ·rw [h1];simp only [aY.refs,im]
 ·cases h
def xH:List Nat→Nat→Bool
 | [],_=>false
 | i::r,k=>match Nat.beq k i with
  | true=>true
  | false=>xH r k
def acx (op:BinOp) (b:Bool) (κ:cx→Option R):Option R:=match op with
 | .eql=>κ ⟨.d ⟨.bool,b⟩,[],0⟩
 | .neq=>κ ⟨.d ⟨.bool,!b⟩,[],0⟩
 | _=>none
def aaQ (P:Program) (op:BinOp) (t:TypeId) (x:TA) (κ:cx→Option R):Option R:=match P.underlying t with
 | some (.interface _)=>match x with
  | .lit .nilIface=>acx op true κ
  | .pK _ _=>acx op false κ
  | _=>none
 | _=>none
theorem eval_nil (a:Act):a.eval (.const .nilIface)=.nilIface:=rfl
theorem L6 (n:Nat) {t:TypeId} {ms:Array (String×TypeId)} (ht:P.underlying t=some (.interface ms)):(Op.equalIn (n+1) t .nilIface .nilIface).run P w=.ok true w∧∀ u v,(Op.equalIn (n+1) t (.iface u v) .nilIface).run P w=.ok false w:=by
 constructor
 ·simp [Op.equalIn,cb ht]
 ·intro u v;simp [Op.equalIn,cb ht]
theorem vn {t:TypeId} {ms:Array (String×TypeId)} (ht:P.underlying t=some (.interface ms)):(Op.equal t .nilIface .nilIface).run P w=.ok true w∧∀ u v,(Op.equal t (.iface u v) .nilIface).run P w=.ok false w:=L6 9999 ht
theorem aaR {o:Oper} {s:bP} {κ:cx→Option R} {z:R} {op:BinOp} {t u:TypeId} {x:Operand} (ho:o.op=.binOp op t x (.const .nilIface) u) (h:aaQ P op t (s.val x) κ=some z):wg P o s κ z:=by
 unfold aaQ at h;split at h
 ·rename_i ms ht;split at h
  ·rename_i hx;have h1:ee s.st x (.lit .nilIface):=bX hx;have key:∀ b,(op=.eql∧b=true)∨(op=.neq∧b=false)→dr P o s.st ⟨.bool b,[],[]⟩:=fun b hb=>b6 fun {w F O μ K ft a} hs=>by
    have hv:=(h1 hs).I0;rcases hb with ⟨rfl,rfl⟩ | ⟨rfl,rfl⟩
    ·refine ⟨.bool true,?_,.bool _⟩;simp [execOp,ho,eqGuard,hv,eval_nil,binOp,(vn ht).1]
    ·refine ⟨.bool false,?_,.bool _⟩;simp [execOp,ho,eqGuard,hv,eval_nil,binOp,(vn ht).1]
   unfold acx at h;split at h
   ·exact oD h (key true (.inl ⟨rfl,rfl⟩))
   ·exact oD h (key false (.inr ⟨rfl,rfl⟩))
   ·cases h
  ·rename_i q y hx;have h1:ee s.st x ((TA.pK q y).av s.H):=bX hx;have key:∀ b,(op=.eql∧b=false)∨(op=.neq∧b=true)→dr P o s.st ⟨.bool b,[],[]⟩:=fun b hb=>b6 fun {w F O μ K ft a} hs=>by
    have h2:=h1 hs;simp only [TA.av] at h2;obtain ⟨v,hv,_⟩:=h2.Co;rcases hb with ⟨rfl,rfl⟩ | ⟨rfl,rfl⟩
    ·refine ⟨.bool false,?_,.bool _⟩;simp [execOp,ho,eqGuard,hv,eval_nil,binOp,(vn ht).2]
    ·refine ⟨.bool true,?_,.bool _⟩;simp [execOp,ho,eqGuard,hv,eval_nil,binOp,(vn ht).2]
   unfold acx at h;split at h
   ·exact oD h (key false (.inl ⟨rfl,rfl⟩))
   ·exact oD h (key true (.inr ⟨rfl,rfl⟩))
   ·cases h
  ·cases h
 ·cases h
def ag0 (P:Program) (H:List (Nat×aY)) (t:TypeId):TA→Bool
 | .rp id _ off=>match aT H id with
  | some (.row u v _)=>match P.underlying t,P.info? t with
   | some d,some ti=>v.d&&Yb u off (cond (I3 d) ti.size 1)
   | _,_=>false
  | _=>false
 | _=>false
def rpD (H:List (Nat×aY)):TA→Bool
 | .rp id _ _=>match aT H id with
  | some (.row _ v _)=>v.d
  | _=>false
 | _=>false
def acy (E:Env):Option Nat→Bool
 | some d=>xH E.dp d
 | none=>false
def KN (E:Env) (d:Option Nat) (bN:List CT):List CT:=match acy E d with
 | true=>bN.reverse
 | false=>bN
theorem Ok {E:Env} {d:Option Nat} {bN:List CT} {c:CT} (h:c∈KN E d bN):c∈bN:=by
 unfold KN at h;split at h
 ·exact List.mem_reverse.1 h
 ·exact h
def RV.whole:RV→RV
 | .ms | .vs=>.vs
 | .dm | .dv=>.dv
theorem WU (v:RV):v.whole.b=true:=by cases v<;>rfl
theorem T2 (v:RV) (t:Ty) (xs:List t.dn):bV v.whole t xs=bV v t xs:=by cases v<;>rfl
def Ol (P:Program) (s:bP) (t:TypeId) (x y m:TA) (κ:cx→Option R):Option R:=match x,y,m,P.underlying t with
 | .ow id,.d ⟨.int _,a⟩,.d ⟨.int _,b⟩,some (.slice et)=>match P.info? et,aT s.H id with
  | some _,some (.row q v xs)=>aZ (bH a (xs.length:Int)&&bH b (xs.length:Int)) (κ ⟨.ow s.N,(s.N,some (.row q v.whole xs))::[id].map fun i=>(i,none),1⟩)
  | _,_=>none
 | _,_,_,_=>none
theorem T3 {o:Oper} {s:bP} {κ:cx→Option R} {z:R} {x y m:Operand} {t:TypeId} (ho:o.op=.slice t x none (some y) (some m)) (hs:s.ok) (h:Ol P s t (s.val x) (s.val y) (s.val m) κ=some z):wg P o s κ z:=by
 unfold Ol at h;split at h
 ·rename_i id k1 a k2 b et hx hy hm ht;split at h
  ·rename_i ti q v xs hi hb;obtain ⟨hc,hz⟩:=gg h;rw [Bool.and_eq_true] at hc;have e1:a=(xs.length:Int):=eq_of_beq (α:=Int) hc.1;have e2:b=(xs.length:Int):=eq_of_beq (α:=Int) hc.2;have h1:=@bX s x _ hx;have h2:ee s.st y (.int k1 a):=@bX s y _ hy;have h3:ee s.st m (.int k2 b):=@bX s m _ hm;rw [e1] at h2;rw [e2] at h3;have e:(TA.ow id).av s.H=du v.b id xs.length (fy q):=by simp only [TA.av,fH,hb]
   rw [e] at h1;have m_:=aee (P:=P) (N:=s.N) ho h1 (dF hb) ht hi h2 h3;refine N9 (k:=1) hs hz m_ (xG fun h=>absurd h (by omega)) ?_ (by simp only [TA.wf];omega) ?_
   ·simp only [TA.av,cD,aT,Nat.beq_refl,fH,WU];exact il.refl _
   ·simp only [aY.dC,WU,T2];exact eQ.refl _
  ·cases h
 ·cases h
def evT (E:Env) (bN:List CT) (o:Oper) (s:bP) (κ Az:cx→Option R):Option R:=
 match o.op with
 | .call ⟨.value x,⟨args⟩,_⟩=>match s.val x with
  | .fn (.func f) first cap=>Jq (KN E o.dst bN) f s ((first++args.map s.val)++cap) κ Az
  | _=>none
 | .call ⟨.invoke x name,⟨args⟩,_⟩=>match s.val x with
  | .pK t b=>match Og E.mt t name with
   | some f=>Jq (KN E o.dst bN) f s (b::args.map s.val) κ Az
   | none=>none
  | _=>none
 | .box t x=>match o.dst with
  | some d=>match xH E.fz d with
   | true=>VM E s t (s.val x) κ
   | false=>WG s (s.val x) κ
  | none=>none
 | .alloc t=>match adf E t with
  | some q=>Oj E s t (acy E o.dst) q κ
  | none=>Mi E.P s t κ
 | .binOp op t x (.const .nilIface) _=>aaQ E.P op t (s.val x) κ
 | .build t ⟨ps⟩=>match E.P.underlying t with
  | some (.array _ _)=>H4 E.P s t ps κ
  | _=>Mk E.P s t ps κ
 | .index t x y=>match E.P.underlying t with
  | some (.array _ _)=>H5 E.P t (s.val x) (s.val y) κ
  | _=>Mh E.P t (s.val x) (s.val y) κ
 | .convert t u x=>match E.P.underlying t with
  | some (.slice _)=>VN E.P s t u (s.val x) κ
  | _=>RI E.P t u (s.val x) κ
 | .makeSlice t x y=>match o.dst with
  | some d=>match xH E.fz d with
   | true=>RO E s t (s.val x) (s.val y) κ
   | false=>match xH E.dp d with
    | true=>RX E s t (Oa x y) (s.val x) (s.val y) κ
    | false=>RN E s t (s.val x) (s.val y) κ
  | none=>none
 | .load t x=>match ag0 E.P s.H t (s.val x) with
  | true=>RW E.P s t (s.val x) κ
  | false=>RK E.P s.H t (s.val x) κ
 | .store t x y=>match rpD s.H (s.val x) with
  | true=>N_ E.P s.H t (s.val x) (s.val y) κ
  | false=>Mj E.P s.H t (s.val x) (s.val y) κ
 | .buildSlice t n ⟨ps⟩=>match acy E o.dst with
  | true=>match n,ps with
   | 0,[]=>HX E s t κ
   | _,_=>HW E s t n ps κ
  | false=>Fu E s t n ps κ
 | .makeMap t none=>KO E s t κ
 | .lookup t x k ok=>Om E s t (s.val x) (s.val k) ok κ
 | .mapUpdate t m k x=>Jr E s t (s.val m) (s.val k) (s.val x) κ
 | .insert t m k x=>Jr E s t (s.val m) (s.val k) (s.val x) κ
 | .slice t x none (some y) (some m)=>Ol E.P s t (s.val x) (s.val y) (s.val m) κ
 | .call ⟨.builtin .delete,⟨[m,k]⟩,⟨[t,_]⟩⟩=>On E s t (s.val m) (s.val k) κ
 | _=>ev0 E o s κ
structure xo (E:Env) (bN:List CT):Prop where
 con:∀ c,c∈bN→aU E.P c
 afA:∀ t n f,(t,n,f)∈E.mt→gK E.P t n f
theorem VO {E:Env} {bN:List CT} {o:Oper} {s:bP} {κ Az:cx→Option R} {z:R} (hE:xo E bN) (hs:s.ok) (h:evT E bN o s κ Az=some z):wg E.P o s κ z∨EvP E.P o s Az z:=by
 unfold evT at h;split at h
 ·rename_i x args ts ho;split at h
  ·rename_i f first cap hx
   exact H3 (R2 ho hx) hs (fun c hc=>hE.con c (Ok hc)) h
  ·cases h
 ·rename_i x name args ts ho;split at h
  ·rename_i t b hx;split at h
   ·rename_i f hf;exact H3 (Py ho hx (hE.afA _ _ _ (Oh hf))) hs (fun c hc=>hE.con c (Ok hc)) h
   ·cases h
  ·cases h
 ·rename_i t x ho;split at h
  ·split at h
   ·exact .inl (Yw ho hs h)
   ·exact .inl (TD ho hs h)
  ·cases h
 ·rename_i t ho;split at h
  ·exact .inl (TZ ho hs h)
  ·exact .inl (NW ho hs h)
 ·rename_i op t x u ho;exact .inl (aaR ho h)
 ·rename_i t ps ho;split at h
  ·exact .inl (Pz ho hs h)
  ·exact .inl (NY ho hs h)
 ·rename_i t x y ho;split at h
  ·exact .inl (PA ho hs h)
  ·exact .inl (NS ho h)
 ·rename_i t u x ho;split at h
  ·exact .inl (Yy ho h)
  ·exact .inl (Qh ho h)
 ·rename_i t x y ho;split at h
  ·split at h
   ·exact .inl (Vw ho hs h)
   ·split at h
    ·exact .inl (VE ho hs h)
    ·exact .inl (Qj ho hs h)
  ·cases h
 ·rename_i t x ho;split at h
  ·exact .inl (VD ho hs h)
  ·exact .inl (Qi ho hs h)
 ·rename_i t x y ho;split at h
  ·exact .inl (TQ ho hs h)
  ·exact .inl (NX ho hs h)
 ·rename_i t n ps ho;split at h
  ·split at h
   ·exact .inl (Px ho hs h)
   ·exact .inl (Pw ho hs h)
  ·exact .inl (Ji ho hs h)
 ·rename_i ho;exact .inl (R3 ho hs h)
 ·rename_i ho;exact .inl (T4 ho hs h)
 ·rename_i ho;exact .inl (LB (.inl ho) hs h)
 ·rename_i ho;exact .inl (LB (.inr ho) hs h)
 ·rename_i ho;exact .inl (T3 ho hs h)
 ·rename_i ho;exact .inl (T5 ho hs h)
 ·exact .inl (aem hs h)
inductive Want where
 | yes
 | no
 | on (t:Nat) (b c:Bool)
def Oq (ops:Array Oper) (s:bP) (o:Oper):Option Want:=
 match o.guard with
 | none=>some .yes
 | some (j,c)=>match (ops[j]?).bind (·.dst) with
  | some t=>match look s.tm t with
   | .d ⟨.bool,b⟩=>some (.on t b c)
   | .lit (.tuple _)=>some .no
   | _=>none
  | none=>some .no
def aes:Value→Option Bool
 | .bool b=>some b
 | _=>none
theorem acz {ops:Array Oper} {a:Act} {o:Oper} {j t:Nat} {c:Bool} {v:Value} (hg:o.guard=some (j,c)) (ht:(ops[j]?).bind (·.dst)=some t) (hv:a.tmps.getD t undef=v) (hu:v≠undef):
  Region.wanted o (yielded ops a.tmps)=(aes v==some c):=by
 have:a.tmps[t]?=some v:=by
  rcases Nat.lt_or_ge t a.tmps.size with h3 | h3
  ·simpa [h3] using hv
  ·exact absurd (by simpa [Array.getElem?_eq_none h3] using hv.symm) hu
 unfold Region.wanted;rw [hg];simp only [yielded,ht,Option.bind_some,this];cases v<;>rfl
theorem qg {ops:Array Oper} {s:bP} {a:Act} {o:Oper} {x:Want} (hs:SR w F O μ K s.st ft a) (h:Oq ops s o=some x):
  match x with | .yes=>Region.wanted o (yielded ops a.tmps)=true | .no=>Region.wanted o (yielded ops a.tmps)=false | .on _ b c=>Region.wanted o (yielded ops a.tmps)=(b==c):=by
 unfold Oq at h;split at h
 ·rename_i hg;cases h;unfold Region.wanted;rw [hg]
 ·rename_i j c hg;split at h
  ·rename_i t ht;have hv:=hs.tm t;simp only [bP.st] at hv;split at h
   ·rename_i b hb;cases h;rw [hb] at hv;simp only [TA.av,cR] at hv;simp only;rw [acz hg ht hv.fe (by simp [undef])];cases b<;>cases c<;>rfl
   ·rename_i l hb;cases h;rw [hb] at hv;simp only [TA.av] at hv;have I4:=hv.I0;simp only;unfold Region.wanted;rw [hg];simp only [yielded,ht,Option.bind_some];rcases Nat.lt_or_ge t a.tmps.size with h3 | h3
    ·have:a.tmps[t]?=some (.tuple l):=by simpa [h3] using I4
     rw [this];simp
    ·rw [Array.getElem?_eq_none h3];simp
   ·cases h
  ·rename_i ht;cases h;simp only;unfold Region.wanted;rw [hg];simp [yielded,ht]
end Go.Proofs.YtjkbbdldmdajkaaGreatDoor.c_
