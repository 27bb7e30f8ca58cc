/- The evaluator of operations, calls with them; a region in the text's order. No condition. -/
import Derived.Test.YtjkbbdldmdajkaaGreatDoorVSA
set_option linter.unusedSimpArgs false
set_option linter.unusedVariables false
namespace Go.Proofs.YtjkbbdldmdajkaaGreatDoor.c_
open Go Go.RowKit
variable {w w' xh:World} {F F' Bn O O' vW:Nat→Prop} {μ bD lF:Nat→Nat} {K K' EB:Nat→Prop} {ft bY:Nat→Nat→Prop} {P:Program} {R:Type}
theorem WQ (H:List (Nat×aY)) (l m:List TA):er H (l++m)=er H l++er H m:=by simp [c7]
theorem RZ {o:Oper} {s:bP} {x:Operand} {f:FuncId} {first cap:List TA} {args:List Operand} {ts:Array TypeId} (ho:o.op=.call ⟨.value x,⟨args⟩,ts⟩) (hx:s.val x=.fn (.func f) first cap):
  RY P o s f ((first++args.map s.val)++cap):=by
 intro hc w F O μ K ft a hs;have hv:=bX hx hs;simp only [TA.av] at hv;obtain ⟨vs,us,EK,h1,h2⟩:=hv.Ko;refine ⟨(vs++args.map a.eval)++us,?_,by rw [WQ,WQ];exact (h1.app (Bu s args hs)).app h2⟩;have:=hc ⟨(vs++args.map a.eval)++us⟩ w;simp only [execOp,ho,resolve,EK,Deferred.ofValue,Sem.run_bind,Sem.run_pure,Result.andThen_ok,invoke];simpa using this
def gJ (P:Program) (t:TypeId) (name:String) (f:FuncId):Prop:=∀ (v:Value) (w:World),(method (P.types.size+Made.depth) t v name).run P w=.ok (f,v) w
theorem Pv {o:Oper} {s:bP} {x:Operand} {name:String} {f:FuncId} {t:TypeId} {b:TA} {args:List Operand} {ts:Array TypeId} (ho:o.op=.call ⟨.invoke x name,⟨args⟩,ts⟩) (hx:s.val x=.pJ t b) (hm:gJ P t name f):
  RY P o s f (b::args.map s.val):=by
 intro hc w F O μ K ft a hs;have hv:=bX hx hs;simp only [TA.av] at hv;obtain ⟨u,EK,h1⟩:=hv.Cn;refine ⟨u::args.map a.eval,?_,by simp only [er];exact .cons h1 (Bu s args hs)⟩;have:=hc ⟨u::args.map a.eval⟩ w;have e:List.take args.length (args.map a.eval)=args.map a.eval:=List.take_of_length_le (by simp);simp [execOp,ho,resolve,EK,invoke,callMethod,hm u w,e];simpa using this
def fits (c:CT) (s:bP) (as:List TA):Bool:=
 match ES s.H c.args as ⟨[],[]⟩ with
 | some (e1,_)=>(ET s.H c.db 0 e1).isSome
 | none=>false
def Jo:List CT→FuncId→bP→List TA→(cx→Option R)→(cx→Option R)→Option R
 | [],_,_,_,_,_=>none
 | c::r,f,s,as,κ,Av=>match Nat.beq c.f f&&fits c s as with
  | true=>VG c s as κ Av
  | false=>Jo r f s as κ Av
theorem HV {f:FuncId} {o:Oper} {s:bP} {as:List TA} {κ Av:cx→Option R} {z:R} (ho:RY P o s f as) (hs:s.ok):∀ {bN:List CT},(∀ c,c∈bN→aU P c)→Jo bN f s as κ Av=some z→wa P o s κ z∨EvP P o s Av z
 | [],_,h=>by cases h
 | c::r,hc,h=>by
  simp only [Jo] at h;split at h
  ·rename_i hb;simp only [Bool.and_eq_true] at hb;exact Ys (hc c (by simp)) (Nat.eq_of_beq_eq_true hb.1▸ho) hs h
  ·exact HV ho hs (fun c hm=>hc c (by simp [hm])) h
def Oe:List (TypeId×String×FuncId)→TypeId→String→Option FuncId
 | [],_,_=>none
 | (t,n,f)::r,u,m=>match Nat.beq t u&&(if n=m then true else false) with
  | true=>some f
  | false=>Oe r u m
theorem Of:∀ {l:List (TypeId×String×FuncId)} {t:TypeId} {n:String} {f:FuncId},Oe l t n=some f→(t,n,f)∈l
 | [],_,_,_,h=>by cases h
 | (t,n,f)::r,u,m,g,h=>by
  simp only [Oe] at h;split at h
  ·rename_i hb;simp only [Bool.and_eq_true] at hb;cases h;have h2:n=m:=by
    have:=hb.2;split at this
    ·assumption
    ·cases this
   rw [Nat.eq_of_beq_eq_true hb.1,h2];simp
  ·exact List.mem_cons_of_mem _ (Of h)
theorem acr {o:Oper} {s:fU} {x:Operand} {t:TypeId} {a:AV} {l:List AV} (ho:o.op=.box t x) (hx:ee s x a) (hl:Ct a l) (hc:∀ b,b∈l→P8 b):dr P o s ⟨.fp l.length (fun j=>l.getD j .top) 0,[],[]⟩:=by
 intro w F O μ K ft act hs _ Kn Q hk;have hv:=(hl (hx hs)).IW hc
 let ob:Obj:=.cells (act.eval x).cells t (0,0)
 have hp:=Kq w ob;have hr:=hs.hr;have re:∀ b,F b→(w.alloc ob).heap[b]?=w.heap[b]?:=fun b hb=>hp.other b (hr.wf b hb) (Nat.ne_of_lt (hr.wf b hb));unfold Oper.wp;have lG:(execOp act.eval o).run P w=.ok (.value (.pointer (some ⟨w.heap.size,0,none⟩))) (w.alloc ob):=by
  simp [execOp,ho,Instr.box,newVar,newRow,ob]
 rw [lG,Oper.upon_value];refine hk _ _ (fun b=>F b∨b=w.heap.size) O μ ft ?_ ?_ ?_<;>try simp only [jE,Hp.Rn]
 ·refine .fp _ _ _ w.heap.size 0 (fun j=>(act.eval x).cells.toList.getD j undef) (.inr rfl) (fun j hj=>?_) fun j hj=>?_
  ·have h1:j < (act.eval x).cells.size:=by have:=hv.1;simp at this;omega
   have h2:(w.alloc ob).heap[w.heap.size]?=some ob:=ED w ob;unfold World.cell?;simp only;rw [h2];simp [ob,h1]
  ·have:=hv.2 j (by omega);rw [Nat.zero_add];exact this.mono re (fun _ h=>.inl h) (fun _ h=>h.elim) (fun _ h=>h) fun _ h=>h.elim
 ·refine { lt:=fun id bZ=>Nat.lt_of_lt_of_le (hr.lt id bZ) hp.size,known:=hr.known,dC:=fun id b hb hU=>?_,self:=hr.self,own:=hr.own,dj:=hr.dj,y9:=?_,wf:=?_,rR:=fun b hb=>Nat.lt_of_lt_of_le (hr.rR b hb) hp.size,pos:=hr.pos.mono hp.size (fun _ h=>.inl h) re }
  ·obtain ⟨o0,ho0,hB⟩:=hr.dC id b hb hU;have bZ:=hr.known id b hb;have qJ:∀ y,y < w.heap.size→(w.alloc ob).heap[y]?=w.heap[y]?:=fun y hy=>hp.other y hy (Nat.ne_of_lt hy);refine ⟨o0,by rw [qJ _ (hr.lt id bZ)];exact ho0,hB.mono re (fun _ h=>.inl h) (fun _ _=>rfl) (fun _ h=>h) (fun i hi=>hp.shape _ (hr.lt i hi)) fun y hy _=>qJ y (hr.rR y (hr.own id ⟨b,hb,hU⟩ y hy))⟩
  ·rintro b hb (hF | hF)
   ·exact hr.y9 b hb hF
   ·have:=hr.rR b hb;omega
  ·rintro b (hF | hF)
   ·exact Nat.lt_of_lt_of_le (hr.wf b hF) hp.size
   ·rw [hF];exact hp.lt
 ·refine { os:=hp.os,tape:=hp.tape,output:=hp.output,size:=hp.size,mu:=fun _ _=>rfl,As:=fun _ h=>.inl h,shape:=hp.shape,same:=fun b hb _=>hp.other b hb (Nat.ne_of_lt hb),EA:=fun _ h=>.inl h,HF:=?_ }
  rintro b (hF | hF)
  ·exact .inl hF
  ·exact .inr (.inl (Nat.le_of_eq hF.symm))
def VJ (E:Env) (s:bP) (t:TypeId) (x:TA) (κ:cx→Option R):Option R:=
 match CA s.H x,L4 E.tc t with
 | some l,some q=>match te (Gl q) l with
  | some ds=>match Mf q ds with
   | some y=>κ ⟨.fp q y 0,[],0⟩
   | none=>none
  | none=>none
 | _,_=>none
theorem Yt {E:Env} {o:Oper} {s:bP} {κ:cx→Option R} {z:R} {x:Operand} {t:TypeId} (ho:o.op=.box t x) (hs:s.ok) (h:VJ E s t (s.val x) κ=some z):wa E.P o s κ z:=by
 unfold VJ at h;split at h
 ·rename_i l q hl hq;split at h
  ·rename_i ds tq;split at h
   ·rename_i y hy;obtain ⟨h1,h2⟩:=yY hl (gH hs x);obtain ⟨d1,d2,d3,d4⟩:=oA tq;have m9:=acr (P:=E.P) ho (gC s x) h1 (CC tq s.H).1;refine kJ h m9 ?_ (by simp only [TA.wf]);simp only [TA.av];have hlen:(er s.H l).length=fx q:=by
     rw [bG,← d1,← fm q y,ff hy]
    rw [hlen];intro w F μ K v hv;have td:∀ j,(sU q y).getD j .top=(ds.map cT).getD j .top:=fun j=>by rw [← fH,ff hy]
    cases hv with
    | fp _ _ _ b o' u hF hu hv=>
     refine .fp _ _ _ b o' u hF hu fun j hj=>?_;have:=hv j hj;rw [td,Nat.zero_add];rw [Nat.zero_add] at hj;simp only [Nat.zero_add] at this;have TF:j < l.length:=by rw [bG] at hlen;omega
     rw [dO _ _ _ TF] at this;exact d4 s.H j TF this
   ·cases h
  ·cases h
 ·cases h
theorem Yu {o:Oper} {s:fU} {t:TypeId} {N bA:Nat} {e:Nat→Nat→AV} (ho:o.op=.alloc t) (hz:z6 P t=some [.fA]):dr P o s ⟨.bp N 0,[(N,some (.box [.fA])),(N+1,some (.row true bA 0 e))],[N,N+1]⟩:=by
 intro w F O μ K ft a hs EM Kn Q hk;refine Tp (N:=N) ho hz w F O μ K ft a hs (fun id bZ=>EM id (by simp only [List.mem_cons,List.not_mem_nil,or_false] at bZ ⊢;exact .inl bZ)) Kn Q fun v w' F' O' bD bY hv hr hf=>?_;have hN:¬ plus K [N] (N+1):=by
  rintro (h | h)
  ·exact EM (N+1) (by simp) h
  ·simp at h
 obtain ⟨k1,k2⟩:=xK (bA:=bA) (e:=e) hr hN;have e1:plus (plus K [N]) [N+1]=plus K [N,N+1]:=by
  funext id;simp only [plus,List.mem_cons,List.not_mem_nil,or_false,eq_iff_iff,or_assoc]
 have e2:(s.H.dh [(N,some (.box [.fA]))]).dh [(N+1,some (.row true bA 0 e))]=s.H.dh [(N,some (.box [.fA])),(N+1,some (.row true bA 0 e))]:=by
  funext id;simp only [Hp.dh];by_cases h1:id=N
  ·subst h1;simp
  ·simp [h1]
 rw [e1] at k1;rw [e2] at k1;refine hk v w' F' O' (Ia bD (N+1) 0) bY ?_ k1 ((hf.trans (k2.OR fun id h=>.inl h)));have JH:VR w' F' bD (plus K [N]) (.bp N 0) v:=hv;exact JH.mono (fun _ _=>rfl) (fun _ h=>h) (fun id bZ=>k2.mu id bZ) (fun id bZ=>by
  rcases bZ with h | h
  ·exact .inl h
  ·exact .inr (by simp only [List.mem_cons,List.not_mem_nil,or_false] at h ⊢;exact .inl h)) fun _ _=>rfl
def ada (E:Env) (t:TypeId):Option Ty:=match E.P.underlying t with
 | some (.slice et)=>L4 E.tc et
 | _=>none
def varOf (d:Bool) (q:Ty):RV:=match d with
 | true=>kindOf q
 | false=>.vs
theorem acs (d:Bool) (q:Ty):(varOf d q).b=true:=by cases d<;>first | rfl | exact NZ q
def Og (E:Env) (s:bP) (t:TypeId) (d:Bool) (q:Ty) (κ:cx→Option R):Option R:=
 match C9 E.P t with
 | some [.fA]=>κ ⟨.bp s.N 0,[(s.N,some (.box [.ow (s.N+1)])),(s.N+1,some (.row q (varOf d q) []))],2⟩
 | _=>none
theorem TW {E:Env} {o:Oper} {s:bP} {κ:cx→Option R} {z:R} {t:TypeId} {q:Ty} {d:Bool} (ho:o.op=.alloc t) (hs:s.ok) (h:Og E s t d q κ=some z):wa E.P o s κ z:=by
 have hkb:=acs d q;unfold Og at h;generalize varOf d q=kd at h hkb;split at h
 ·rename_i hz;have hz':=(qd hz s.H s.N).1;simp only [er,TA.av] at hz';have m9:=Yu (N:=s.N) (s:=s.st) (bA:=fx q) (e:=bV kd q []) ho hz';have jO:Sub s.H (cD s.H [(s.N,some (.box [.ow (s.N+1)])),(s.N+1,some (.row q kd []))]) s.N:=fun id bZ=>by
   simp only [cD,aT];rw [cd (by omega),cd (by omega)]
  refine ⟨⟨.bp s.N 0,[(s.N,some (.box [.ow (s.N+1)])),(s.N+1,some (.row q kd []))],2⟩,⟨_,_,m9,?_,?_,?_⟩,⟨jO,?_,?_⟩,h⟩
  ·simp only [TA.av];exact (@ik.refl _)
  ·intro id bZ;simpa using bZ
  ·intro id b' cl;obtain ⟨c,hc,hcv,rfl⟩:=iy cl;simp only [bP.next,cD,aT] at hc;simp only [Hp.dh,afl];cases e1:Nat.beq id s.N with
   | true=>
    rw [e1] at hc;have e:=Nat.eq_of_beq_eq_true e1;subst e;cases hc;refine ⟨_,if_pos rfl,?_⟩;simp only [aY.dC,er,TA.av,bP.next,cD,aT,cd (show ¬ s.N+1=s.N by omega),Nat.beq_refl,fG,List.length_nil,hkb,du];refine Tt rfl fun k hk=>?_;have:k=0:=by simpa using hk
    subst this;intro w F μ K v hv;have hv:VR w F μ K .fA v:=hv;rw [hv.qa];exact .s8 _ _ _
   | false=>
    rw [e1] at hc;have qJ:=Nat.ne_of_beq_eq_false e1;rw [if_neg qJ];cases e2:Nat.beq id (s.N+1) with
    | true=>
     rw [e2] at hc;have e:=Nat.eq_of_beq_eq_true e2;subst e;cases hc;refine ⟨_,if_pos rfl,?_⟩;simp only [aY.dC,hkb,List.length_nil];exact eQ.refl _
    | false=>
     rw [e2] at hc;rw [if_neg (Nat.ne_of_beq_eq_false e2)];refine ⟨_,Kz hc hcv,?_⟩;rw [show (s.next _).H=cD s.H [(s.N,some (.box [.ow (s.N+1)])),(s.N+1,some (.row q kd []))] from rfl,qL jO (hs.H id _ hc)];exact eQ.refl _
  ·simp only [TA.wf]
  ·intro id l hm;simp only [List.mem_cons,List.not_mem_nil,or_false,Prod.mk.injEq,Option.some.injEq] at hm;rcases hm with ⟨rfl,h1⟩ | ⟨rfl,h1⟩
   ·cases h1;simp only [aY.refs,iz,TA.wf,and_true];omega
   ·rw [h1];simp only [aY.refs,iz]
 ·cases h
def xG:List Nat→Nat→Bool
 | [],_=>false
 | i::r,k=>match Nat.beq k i with
  | true=>true
  | false=>xG r k
def acu (op:BinOp) (b:Bool) (κ:cx→Option R):Option R:=match op with
 | .eql=>κ ⟨.d ⟨.bool,b⟩,[],0⟩
 | .neq=>κ ⟨.d ⟨.bool,!b⟩,[],0⟩
 | _=>none
def aaN (P:Program) (op:BinOp) (t:TypeId) (x:TA) (κ:cx→Option R):Option R:=match P.underlying t with
 | some (.interface _)=>match x with
  | .lit .nilIface=>acu op true κ
  | .pJ _ _=>acu op false κ
  | _=>none
 | _=>none
theorem eval_nil (a:Act):a.eval (.const .nilIface)=.nilIface:=rfl
theorem L5 (n:Nat) {t:TypeId} {ms:Array (String×TypeId)} (ht:P.underlying t=some (.interface ms)):(Op.equalIn (n+1) t .nilIface .nilIface).run P w=.ok true w∧∀ u v,(Op.equalIn (n+1) t (.iface u v) .nilIface).run P w=.ok false w:=by
 constructor
 ·simp [Op.equalIn,cb ht]
 ·intro u v;simp [Op.equalIn,cb ht]
theorem vi {t:TypeId} {ms:Array (String×TypeId)} (ht:P.underlying t=some (.interface ms)):(Op.equal t .nilIface .nilIface).run P w=.ok true w∧∀ u v,(Op.equal t (.iface u v) .nilIface).run P w=.ok false w:=L5 9999 ht
theorem aaO {o:Oper} {s:bP} {κ:cx→Option R} {z:R} {op:BinOp} {t u:TypeId} {x:Operand} (ho:o.op=.binOp op t x (.const .nilIface) u) (h:aaN P op t (s.val x) κ=some z):wa P o s κ z:=by
 unfold aaN at h;split at h
 ·rename_i ms ht;split at h
  ·rename_i hx;have h1:ee s.st x (.lit .nilIface):=bX hx;have key:∀ b,(op=.eql∧b=true)∨(op=.neq∧b=false)→dr P o s.st ⟨.bool b,[],[]⟩:=fun b hb=>b6 fun {w F O μ K ft a} hs=>by
    have hv:=(h1 hs).IY;rcases hb with ⟨rfl,rfl⟩ | ⟨rfl,rfl⟩
    ·refine ⟨.bool true,?_,.bool _⟩;simp [execOp,ho,eqGuard,hv,eval_nil,binOp,(vi ht).1]
    ·refine ⟨.bool false,?_,.bool _⟩;simp [execOp,ho,eqGuard,hv,eval_nil,binOp,(vi ht).1]
   unfold acu at h;split at h
   ·exact oC h (key true (.inl ⟨rfl,rfl⟩))
   ·exact oC h (key false (.inr ⟨rfl,rfl⟩))
   ·cases h
  ·rename_i q y hx;have h1:ee s.st x ((TA.pJ q y).av s.H):=bX hx;have key:∀ b,(op=.eql∧b=false)∨(op=.neq∧b=true)→dr P o s.st ⟨.bool b,[],[]⟩:=fun b hb=>b6 fun {w F O μ K ft a} hs=>by
    have h2:=h1 hs;simp only [TA.av] at h2;obtain ⟨v,hv,_⟩:=h2.Cn;rcases hb with ⟨rfl,rfl⟩ | ⟨rfl,rfl⟩
    ·refine ⟨.bool false,?_,.bool _⟩;simp [execOp,ho,eqGuard,hv,eval_nil,binOp,(vi ht).2]
    ·refine ⟨.bool true,?_,.bool _⟩;simp [execOp,ho,eqGuard,hv,eval_nil,binOp,(vi ht).2]
   unfold acu at h;split at h
   ·exact oC h (key false (.inl ⟨rfl,rfl⟩))
   ·exact oC h (key true (.inr ⟨rfl,rfl⟩))
   ·cases h
  ·cases h
 ·cases h
def agW (P:Program) (H:List (Nat×aY)) (t:TypeId):TA→Bool
 | .rp id _ off=>match aT H id with
  | some (.row u v _)=>match P.underlying t,P.info? t with
   | some d,some ti=>v.d&&X9 u off (cond (I1 d) ti.size 1)
   | _,_=>false
  | _=>false
 | _=>false
def rpD (H:List (Nat×aY)):TA→Bool
 | .rp id _ _=>match aT H id with
  | some (.row _ v _)=>v.d
  | _=>false
 | _=>false
def acv (E:Env):Option Nat→Bool
 | some d=>xG E.dp d
 | none=>false
def KM (E:Env) (d:Option Nat) (bN:List CT):List CT:=match acv E d with
 | true=>bN.reverse
 | false=>bN
theorem Oh {E:Env} {d:Option Nat} {bN:List CT} {c:CT} (h:c∈KM E d bN):c∈bN:=by
 unfold KM at h;split at h
 ·exact List.mem_reverse.1 h
 ·exact h
def RV.whole:RV→RV
 | .ms | .vs=>.vs
 | .dm | .dv=>.dv
theorem WR (v:RV):v.whole.b=true:=by cases v<;>rfl
theorem TX (v:RV) (t:Ty) (xs:List t.dn):bV v.whole t xs=bV v t xs:=by cases v<;>rfl
def Oj (P:Program) (s:bP) (t:TypeId) (x y m:TA) (κ:cx→Option R):Option R:=match x,y,m,P.underlying t with
 | .ow id,.d ⟨.int _,a⟩,.d ⟨.int _,b⟩,some (.slice et)=>match P.info? et,aT s.H id with
  | some _,some (.row q v xs)=>aZ (bH a (xs.length:Int)&&bH b (xs.length:Int)) (κ ⟨.ow s.N,(s.N,some (.row q v.whole xs))::[id].map fun i=>(i,none),1⟩)
  | _,_=>none
 | _,_,_,_=>none
theorem TY {o:Oper} {s:bP} {κ:cx→Option R} {z:R} {x y m:Operand} {t:TypeId} (ho:o.op=.slice t x none (some y) (some m)) (hs:s.ok) (h:Oj P s t (s.val x) (s.val y) (s.val m) κ=some z):wa P o s κ z:=by
 unfold Oj at h;split at h
 ·rename_i id k1 a k2 b et hx hy hm ht;split at h
  ·rename_i ti q v xs hi hb;obtain ⟨hc,hz⟩:=gb h;rw [Bool.and_eq_true] at hc;have e1:a=(xs.length:Int):=eq_of_beq (α:=Int) hc.1;have e2:b=(xs.length:Int):=eq_of_beq (α:=Int) hc.2;have h1:=@bX s x _ hx;have h2:ee s.st y (.int k1 a):=@bX s y _ hy;have h3:ee s.st m (.int k2 b):=@bX s m _ hm;rw [e1] at h2;rw [e2] at h3;have e:(TA.ow id).av s.H=du v.b id xs.length (fx q):=by simp only [TA.av,fG,hb]
   rw [e] at h1;have m9:=aea (P:=P) (N:=s.N) ho h1 (dG hb) ht hi h2 h3;refine N8 (k:=1) hs hz m9 (xE fun h=>absurd h (by omega)) ?_ (by simp only [TA.wf];omega) ?_
   ·simp only [TA.av,cD,aT,Nat.beq_refl,fG,WR];exact ik.refl _
   ·simp only [aY.dC,WR,TX];exact eQ.refl _
  ·cases h
 ·cases h
def evT (E:Env) (bN:List CT) (o:Oper) (s:bP) (κ Av:cx→Option R):Option R:=
 match o.op with
 | .call ⟨.value x,⟨args⟩,_⟩=>match s.val x with
  | .fn (.func f) first cap=>Jo (KM E o.dst bN) f s ((first++args.map s.val)++cap) κ Av
  | _=>none
 | .call ⟨.invoke x name,⟨args⟩,_⟩=>match s.val x with
  | .pJ t b=>match Oe E.mt t name with
   | some f=>Jo (KM E o.dst bN) f s (b::args.map s.val) κ Av
   | none=>none
  | _=>none
 | .box t x=>match o.dst with
  | some d=>match xG E.fz d with
   | true=>VJ E s t (s.val x) κ
   | false=>WC s (s.val x) κ
  | none=>none
 | .alloc t=>match ada E t with
  | some q=>Og E s t (acv E o.dst) q κ
  | none=>Mh E.P s t κ
 | .binOp op t x (.const .nilIface) _=>aaN E.P op t (s.val x) κ
 | .build t ⟨ps⟩=>match E.P.underlying t with
  | some (.array _ _)=>HW E.P s t ps κ
  | _=>Mj E.P s t ps κ
 | .index t x y=>match E.P.underlying t with
  | some (.array _ _)=>HX E.P t (s.val x) (s.val y) κ
  | _=>Mg E.P t (s.val x) (s.val y) κ
 | .convert t u x=>match E.P.underlying t with
  | some (.slice _)=>VK E.P s t u (s.val x) κ
  | _=>RG E.P t u (s.val x) κ
 | .makeSlice t x y=>match o.dst with
  | some d=>match xG E.fz d with
   | true=>RM E s t (s.val x) (s.val y) κ
   | false=>match xG E.dp d with
    | true=>RU E s t (N_ x y) (s.val x) (s.val y) κ
    | false=>RL E s t (s.val x) (s.val y) κ
  | none=>none
 | .load t x=>match agW E.P s.H t (s.val x) with
  | true=>RT E.P s t (s.val x) κ
  | false=>RI E.P s.H t (s.val x) κ
 | .store t x y=>match rpD s.H (s.val x) with
  | true=>N9 E.P s.H t (s.val x) (s.val y) κ
  | false=>Mi E.P s.H t (s.val x) (s.val y) κ
 | .buildSlice t n ⟨ps⟩=>match acv E o.dst with
  | true=>match n,ps with
   | 0,[]=>HT E s t κ
   | _,_=>HS E s t n ps κ
  | false=>Fl E s t n ps κ
 | .makeMap t none=>KN E s t κ
 | .lookup t x k ok=>Ok E s t (s.val x) (s.val k) ok κ
 | .mapUpdate t m k x=>Jp E s t (s.val m) (s.val k) (s.val x) κ
 | .insert t m k x=>Jp E s t (s.val m) (s.val k) (s.val x) κ
 | .slice t x none (some y) (some m)=>Oj E.P s t (s.val x) (s.val y) (s.val m) κ
 | .call ⟨.builtin .delete,⟨[m,k]⟩,⟨[t,_]⟩⟩=>Ol E s t (s.val m) (s.val k) κ
 | _=>ev0 E o s κ
structure xm (E:Env) (bN:List CT):Prop where
 con:∀ c,c∈bN→aU E.P c
 afw:∀ t n f,(t,n,f)∈E.mt→gJ E.P t n f
theorem VL {E:Env} {bN:List CT} {o:Oper} {s:bP} {κ Av:cx→Option R} {z:R} (hE:xm E bN) (hs:s.ok) (h:evT E bN o s κ Av=some z):wa E.P o s κ z∨EvP E.P o s Av z:=by
 unfold evT at h;split at h
 ·rename_i x args ts ho;split at h
  ·rename_i f first cap hx
   exact HV (RZ ho hx) hs (fun c hc=>hE.con c (Oh hc)) h
  ·cases h
 ·rename_i x name args ts ho;split at h
  ·rename_i t b hx;split at h
   ·rename_i f hf;exact HV (Pv ho hx (hE.afw _ _ _ (Of hf))) hs (fun c hc=>hE.con c (Oh hc)) h
   ·cases h
  ·cases h
 ·rename_i t x ho;split at h
  ·split at h
   ·exact .inl (Yt ho hs h)
   ·exact .inl (Tz ho hs h)
  ·cases h
 ·rename_i t ho;split at h
  ·exact .inl (TW ho hs h)
  ·exact .inl (NV ho hs h)
 ·rename_i op t x u ho;exact .inl (aaO ho h)
 ·rename_i t ps ho;split at h
  ·exact .inl (Pw ho hs h)
  ·exact .inl (NX ho hs h)
 ·rename_i t x y ho;split at h
  ·exact .inl (Px ho hs h)
  ·exact .inl (NR ho h)
 ·rename_i t u x ho;split at h
  ·exact .inl (Yv ho h)
  ·exact .inl (Qd ho h)
 ·rename_i t x y ho;split at h
  ·split at h
   ·exact .inl (Vt ho hs h)
   ·split at h
    ·exact .inl (VB ho hs h)
    ·exact .inl (Qf ho hs h)
  ·cases h
 ·rename_i t x ho;split at h
  ·exact .inl (VA ho hs h)
  ·exact .inl (Qe ho hs h)
 ·rename_i t x y ho;split at h
  ·exact .inl (TN ho hs h)
  ·exact .inl (NW ho hs h)
 ·rename_i t n ps ho;split at h
  ·split at h
   ·exact .inl (Pt ho hs h)
   ·exact .inl (Ps ho hs h)
  ·exact .inl (Jg ho hs h)
 ·rename_i ho;exact .inl (R0 ho hs h)
 ·rename_i ho;exact .inl (TZ ho hs h)
 ·rename_i ho;exact .inl (LA (.inl ho) hs h)
 ·rename_i ho;exact .inl (LA (.inr ho) hs h)
 ·rename_i ho;exact .inl (TY ho hs h)
 ·rename_i ho;exact .inl (T2 ho hs h)
 ·exact .inl (aei hs h)
inductive Want where
 | yes
 | no
 | on (t:Nat) (b c:Bool)
def Om (ops:Array Oper) (s:bP) (o:Oper):Option Want:=
 match o.guard with
 | none=>some .yes
 | some (j,c)=>match (ops[j]?).bind (·.dst) with
  | some t=>match look s.tm t with
   | .d ⟨.bool,b⟩=>some (.on t b c)
   | .lit (.tuple _)=>some .no
   | _=>none
  | none=>some .no
def aeo:Value→Option Bool
 | .bool b=>some b
 | _=>none
theorem acw {ops:Array Oper} {a:Act} {o:Oper} {j t:Nat} {c:Bool} {v:Value} (hg:o.guard=some (j,c)) (ht:(ops[j]?).bind (·.dst)=some t) (hv:a.tmps.getD t undef=v) (hu:v≠undef):
  Region.wanted o (yielded ops a.tmps)=(aeo v==some c):=by
 have:a.tmps[t]?=some v:=by
  rcases Nat.lt_or_ge t a.tmps.size with h3 | h3
  ·simpa [h3] using hv
  ·exact absurd (by simpa [Array.getElem?_eq_none h3] using hv.symm) hu
 unfold Region.wanted;rw [hg];simp only [yielded,ht,Option.bind_some,this];cases v<;>rfl
theorem qe {ops:Array Oper} {s:bP} {a:Act} {o:Oper} {x:Want} (hs:SR w F O μ K s.st ft a) (h:Om ops s o=some x):
  match x with | .yes=>Region.wanted o (yielded ops a.tmps)=true | .no=>Region.wanted o (yielded ops a.tmps)=false | .on _ b c=>Region.wanted o (yielded ops a.tmps)=(b==c):=by
 unfold Om at h;split at h
 ·rename_i hg;cases h;unfold Region.wanted;rw [hg]
 ·rename_i j c hg;split at h
  ·rename_i t ht;have hv:=hs.tm t;simp only [bP.st] at hv;split at h
   ·rename_i b hb;cases h;rw [hb] at hv;simp only [TA.av,cT] at hv;simp only;rw [acw hg ht hv.fe (by simp [undef])];cases b<;>cases c<;>rfl
   ·rename_i l hb;cases h;rw [hb] at hv;simp only [TA.av] at hv;have I2:=hv.IY;simp only;unfold Region.wanted;rw [hg];simp only [yielded,ht,Option.bind_some];rcases Nat.lt_or_ge t a.tmps.size with h3 | h3
    ·have:a.tmps[t]?=some (.tuple l):=by simpa [h3] using I2
     rw [this];simp
    ·rw [Array.getElem?_eq_none h3];simp
   ·cases h
  ·rename_i ht;cases h;simp only;unfold Region.wanted;rw [hg];simp [yielded,ht]
end Go.Proofs.YtjkbbdldmdajkaaGreatDoor.c_
