/- The evaluator of operations, calls with them; a region in the text's order. No condition. -/
import Derived.Test.YtljfmaaadnoggaaGreatDoorVSA
set_option linter.unusedSimpArgs false
set_option linter.unusedVariables false
namespace Go.Proofs.YtljfmaaadnoggaaGreatDoor.cU
open Go Go.RowKit
variable {w w' vP:World} {F F' Am O O' ux:Nat→Prop} {μ bB jV:Nat→Nat} {K K' DQ:Nat→Prop} {ft b7:Nat→Nat→Prop} {P:Program} {R:Type}
theorem Wj (H:List (Nat×aW)) (l m:List TA):dJ H (l++m)=dJ H l++dJ H m:=by simp [cR]
theorem Rs {o:Oper} {s:bK} {x:Operand} {f:FuncId} {first cap:List TA} {args:List Operand} {ts:Array TypeId} (ho:o.op=.call ⟨.value x,⟨args⟩,ts⟩) (hx:s.val x=.fn (.func f) first cap):
  Rr P o s f ((first++args.map s.val)++cap):=by
 intro hc w F O μ K ft a hs
 have hv:=b8 hx hs
 simp only [TA.av] at hv
 obtain ⟨vs,us,F_,h1,h2⟩:=hv.J7
 refine ⟨(vs++args.map a.eval)++us,?_,by rw [Wj,Wj];exact (h1.app (At s args hs)).app h2⟩
 have:=hc ⟨(vs++args.map a.eval)++us⟩ w
 simp only [execOp,ho,resolve,F_,Deferred.ofValue,Sem.run_bind,Sem.run_pure,Result.andThen_ok,invoke]
 simpa using this
def f_ (P:Program) (t:TypeId) (name:String) (f:FuncId):Prop:=∀ (v:Value) (w:World),(method (P.types.size+Made.depth) t v name).run P w=.ok (f,v) w
theorem OU {o:Oper} {s:bK} {x:Operand} {name:String} {f:FuncId} {t:TypeId} {b:TA} {args:List Operand} {ts:Array TypeId} (ho:o.op=.call ⟨.invoke x name,⟨args⟩,ts⟩) (hx:s.val x=.nX t b) (hm:f_ P t name f):
  Rr P o s f (b::args.map s.val):=by
 intro hc w F O μ K ft a hs
 have hv:=b8 hx hs
 simp only [TA.av] at hv
 obtain ⟨u,F_,h1⟩:=hv.Bf
 refine ⟨u::args.map a.eval,?_,by simp only [dJ];exact .cons h1 (At s args hs)⟩
 have:=hc ⟨u::args.map a.eval⟩ w
 have e:List.take args.length (args.map a.eval)=args.map a.eval:=List.take_of_length_le (by simp)
 simp [execOp,ho,resolve,F_,invoke,callMethod,hm u w,e]
 simpa using this
def fits (c:CT) (s:bK) (as:List TA):Bool:=
 match D7 s.H c.args as ⟨[],[]⟩ with
 | some (e1,_)=>(D8 s.H c.cW 0 e1).isSome
 | none=>false
def I4:List CT→FuncId→bK→List TA→(cC→Option R)→(cC→Option R)→Option R
 | [],_,_,_,_,_=>none
 | c::r,f,s,as,κ,zx=>match Nat.beq c.f f&&fits c s as with
  | true=>Vb c s as κ zx
  | false=>I4 r f s as κ zx
theorem Hq {f:FuncId} {o:Oper} {s:bK} {as:List TA} {κ zx:cC→Option R} {z:R} (ho:Rr P o s f as) (hs:s.ok):∀ {bH:List CT},(∀ c,c∈bH→aU P c)→I4 bH f s as κ zx=some z→we P o s κ z∨EvP P o s zx z
 | [],_,h=>by cases h
 | c::r,hc,h=>by
  simp only [I4] at h
  split at h
  ·rename_i hb
   simp only [Bool.and_eq_true] at hb
   exact XN (hc c (by simp)) (Nat.eq_of_beq_eq_true hb.1▸ho) hs h
  ·exact Hq ho hs (fun c hm=>hc c (by simp [hm])) h
def NI:List (TypeId×String×FuncId)→TypeId→String→Option FuncId
 | [],_,_=>none
 | (t,n,f)::r,u,m=>match Nat.beq t u&&(if n=m then true else false) with
  | true=>some f
  | false=>NI r u m
theorem NJ:∀ {l:List (TypeId×String×FuncId)} {t:TypeId} {n:String} {f:FuncId},NI l t n=some f→(t,n,f)∈l
 | [],_,_,_,h=>by cases h
 | (t,n,f)::r,u,m,g,h=>by
  simp only [NI] at h
  split at h
  ·rename_i hb
   simp only [Bool.and_eq_true] at hb
   cases h
   have h2:n=m:=by
    have:=hb.2
    split at this
    ·assumption
    ·cases this
   rw [Nat.eq_of_beq_eq_true hb.1,h2];simp
  ·exact List.mem_cons_of_mem _ (NJ h)
theorem abv {o:Oper} {s:fy} {x:Operand} {t:TypeId} {a:AV} {l:List AV} (ho:o.op=.box t x) (hx:dT s x a) (hl:Bl a l) (hc:∀ b,b∈l→PL b):db P o s ⟨.fp l.length (fun j=>l.getD j .top) 0,[],[]⟩:=by
 intro w F O μ K ft act hs _ Kn Q hk
 have hv:=(hl (hx hs)).Iy hc
 let ob:Obj:=.cells (act.eval x).cells t (0,0)
 have hp:=J8 w ob
 have hr:=hs.hr
 have pz:∀ b,F b→(w.alloc ob).heap[b]?=w.heap[b]?:=fun b hb=>hp.other b (hr.wf b hb) (Nat.ne_of_lt (hr.wf b hb))
 unfold Oper.wp
 have lD:(execOp act.eval o).run P w=.ok (.value (.pointer (some ⟨w.heap.size,0,none⟩))) (w.alloc ob):=by
  simp [execOp,ho,Instr.box,newVar,newRow,ob]
 rw [lD,Oper.upon_value]
 refine hk _ _ (fun b=>F b∨b=w.heap.size) O μ ft ?_ ?_ ?_<;>try simp only [la,Hp.QT]
 ·refine .fp _ _ _ w.heap.size 0 (fun j=>(act.eval x).cells.toList.getD j undef) (.inr rfl) (fun j hj=>?_) fun j hj=>?_
  ·have h1:j < (act.eval x).cells.size:=by have:=hv.1;simp at this;omega
   have h2:(w.alloc ob).heap[w.heap.size]?=some ob:=DR w ob
   unfold World.cell?
   simp only
   rw [h2]
   simp [ob,h1]
  ·have:=hv.2 j (by omega)
   rw [Nat.zero_add]
   exact this.mono pz (fun _ h=>.inl h) (fun _ h=>h.elim) (fun _ h=>h) fun _ h=>h.elim
 ·refine { lt:=fun id bY=>Nat.lt_of_lt_of_le (hr.lt id bY) hp.size,known:=hr.known,di:=fun id b hb ic=>?_,self:=hr.self,own:=hr.own,dj:=hr.dj,xW:=?_,wf:=?_,p0:=fun b hb=>Nat.lt_of_lt_of_le (hr.p0 b hb) hp.size,pos:=hr.pos.mono hp.size (fun _ h=>.inl h) pz }
  ·obtain ⟨o0,ho0,hB⟩:=hr.di id b hb ic
   have bY:=hr.known id b hb
   have o8:∀ y,y < w.heap.size→(w.alloc ob).heap[y]?=w.heap[y]?:=fun y hy=>hp.other y hy (Nat.ne_of_lt hy)
   refine ⟨o0,by rw [o8 _ (hr.lt id bY)];exact ho0,hB.mono pz (fun _ h=>.inl h) (fun _ _=>rfl) (fun _ h=>h) (fun i hi=>hp.shape _ (hr.lt i hi)) fun y hy _=>o8 y (hr.p0 y (hr.own id ⟨b,hb,ic⟩ y hy))⟩
  ·rintro b hb (hF | hF)
   ·exact hr.xW b hb hF
   ·have:=hr.p0 b hb;omega
  ·rintro b (hF | hF)
   ·exact Nat.lt_of_lt_of_le (hr.wf b hF) hp.size
   ·rw [hF];exact hp.lt
 ·refine { os:=hp.os,tape:=hp.tape,output:=hp.output,size:=hp.size,mu:=fun _ _=>rfl,zr:=fun _ h=>.inl h,shape:=hp.shape,same:=fun b hb _=>hp.other b hb (Nat.ne_of_lt hb),DP:=fun _ h=>.inl h,Ha:=?_ }
  rintro b (hF | hF)
  ·exact .inl hF
  ·exact .inr (.inl (Nat.le_of_eq hF.symm))
def Ve (E:Env) (s:bK) (t:TypeId) (x:TA) (κ:cC→Option R):Option R:=
 match Bu s.H x,Nk E.tc t with
 | some l,some q=>match rG (FF q) l with
  | some ds=>match LY q ds with
   | some y=>κ ⟨.fp q y 0,[],0⟩
   | none=>none
  | none=>none
 | _,_=>none
theorem XO {E:Env} {o:Oper} {s:bK} {κ:cC→Option R} {z:R} {x:Operand} {t:TypeId} (ho:o.op=.box t x) (hs:s.ok) (h:Ve E s t (s.val x) κ=some z):we E.P o s κ z:=by
 unfold Ve at h
 split at h
 ·rename_i l q hl hq
  split at h
  ·rename_i ds rR
   split at h
   ·rename_i y hy
    obtain ⟨h1,h2⟩:=xR hl (fX hs x)
    obtain ⟨d1,d2,d3,d4⟩:=mJ rR
    have mO:=abv (P:=E.P) ho (fQ s x) h1 (Bw rR s.H).1
    refine jv h mO ?_ (by simp only [TA.wf])
    simp only [TA.av]
    have hlen:(dJ s.H l).length=eR q:=by
     rw [bE,← d1,← eE q y,ez hy]
    rw [hlen]
    intro w F μ K v hv
    have rF:∀ j,(rk q y).getD j .top=(ds.map cK).getD j .top:=fun j=>by rw [← e_,ez hy]
    cases hv with
    | fp _ _ _ b o' u hF hu hv=>
     refine .fp _ _ _ b o' u hF hu fun j hj=>?_
     have:=hv j hj
     rw [rF,Nat.zero_add]
     rw [Nat.zero_add] at hj
     simp only [Nat.zero_add] at this
     have S6:j < l.length:=by rw [bE] at hlen;omega
     rw [dy _ _ _ S6] at this
     exact d4 s.H j S6 this
   ·cases h
  ·cases h
 ·cases h
theorem XP {o:Oper} {s:fy} {t:TypeId} {N aZ:Nat} {e:Nat→Nat→AV} (ho:o.op=.alloc t) (hz:Ao P t=some [.eQ]):db P o s ⟨.bp N 0,[(N,some (.box [.eQ])),(N+1,some (.row true aZ 0 e))],[N,N+1]⟩:=by
 intro w F O μ K ft a hs DZ Kn Q hk
 refine SP (N:=N) ho hz w F O μ K ft a hs (fun id bY=>DZ id (by simp only [List.mem_cons,List.not_mem_nil,or_false] at bY ⊢;exact .inl bY)) Kn Q fun v w' F' O' bB b7 hv hr hf=>?_
 have hN:¬ plus K [N] (N+1):=by
  rintro (h | h)
  ·exact DZ (N+1) (by simp) h
  ·simp at h
 obtain ⟨k1,k2⟩:=Eu (aZ:=aZ) (e:=e) hr hN
 have e1:plus (plus K [N]) [N+1]=plus K [N,N+1]:=by
  funext id;simp only [plus,List.mem_cons,List.not_mem_nil,or_false,eq_iff_iff,or_assoc]
 have e2:(s.H.c7 [(N,some (.box [.eQ]))]).c7 [(N+1,some (.row true aZ 0 e))]=s.H.c7 [(N,some (.box [.eQ])),(N+1,some (.row true aZ 0 e))]:=by
  funext id
  simp only [Hp.c7]
  by_cases h1:id=N
  ·subst h1;simp
  ·simp [h1]
 rw [e1] at k1
 rw [e2] at k1
 refine hk v w' F' O' (IC bB (N+1) 0) b7 ?_ k1 ((hf.trans (k2.Of fun id h=>.inl h)))
 have Jm:VR w' F' bB (plus K [N]) (.bp N 0) v:=hv
 exact Jm.mono (fun _ _=>rfl) (fun _ h=>h) (fun id bY=>k2.mu id bY) (fun id bY=>by
  rcases bY with h | h
  ·exact .inl h
  ·exact .inr (by simp only [List.mem_cons,List.not_mem_nil,or_false] at h ⊢;exact .inl h)) fun _ _=>rfl
def acg (E:Env) (t:TypeId):Option Ty:=match E.P.underlying t with
 | some (.slice et)=>Nk E.tc et
 | _=>none
def varOf (d:Bool) (q:Ty):RV:=match d with
 | true=>kindOf q
 | false=>.vs
theorem abw (d:Bool) (q:Ty):(varOf d q).b=true:=by cases d<;>first | rfl | exact Nv q
def NK (E:Env) (s:bK) (t:TypeId) (d:Bool) (q:Ty) (κ:cC→Option R):Option R:=
 match D5 E.P t with
 | some [.eQ]=>κ ⟨.bp s.N 0,[(s.N,some (.box [.ow (s.N+1)])),(s.N+1,some (.row q (varOf d q) []))],2⟩
 | _=>none
theorem Tq {E:Env} {o:Oper} {s:bK} {κ:cC→Option R} {z:R} {t:TypeId} {q:Ty} {d:Bool} (ho:o.op=.alloc t) (hs:s.ok) (h:NK E s t d q κ=some z):we E.P o s κ z:=by
 have hkb:=abw d q
 unfold NK at h
 generalize varOf d q=kd at h hkb
 split at h
 ·rename_i hz
  have hz':=(rJ hz s.H s.N).1
  simp only [dJ,TA.av] at hz'
  have mO:=XP (N:=s.N) (s:=s.st) (aZ:=eR q) (e:=bU kd q []) ho hz'
  have iV:Sub s.H (cz s.H [(s.N,some (.box [.ow (s.N+1)])),(s.N+1,some (.row q kd []))]) s.N:=fun id bY=>by
   simp only [cz,aR]
   rw [ca (by omega),ca (by omega)]
  refine ⟨⟨.bp s.N 0,[(s.N,some (.box [.ow (s.N+1)])),(s.N+1,some (.row q kd []))],2⟩,⟨_,_,mO,?_,?_,?_⟩,⟨iV,?_,?_⟩,h⟩
  ·simp only [TA.av];exact (@gZ.refl _)
  ·intro id bY;simpa using bY
  ·intro id b' cd
   obtain ⟨c,hc,hcv,rfl⟩:=gP cd
   simp only [bK.next,cz,aR] at hc
   simp only [Hp.c7,aes]
   cases e1:Nat.beq id s.N with
   | true=>
    rw [e1] at hc
    have e:=Nat.eq_of_beq_eq_true e1
    subst e
    cases hc
    refine ⟨_,if_pos rfl,?_⟩
    simp only [aW.di,dJ,TA.av,bK.next,cz,aR,ca (show ¬ s.N+1=s.N by omega),Nat.beq_refl,fj,List.length_nil,hkb,dd]
    refine SU rfl fun k hk=>?_
    have:k=0:=by simpa using hk
    subst this
    intro w F μ K v hv
    have hv:VR w F μ K .eQ v:=hv
    rw [hv.oD]
    exact .vO _ _ _
   | false=>
    rw [e1] at hc
    have o8:=Nat.ne_of_beq_eq_false e1
    rw [if_neg o8]
    cases e2:Nat.beq id (s.N+1) with
    | true=>
     rw [e2] at hc
     have e:=Nat.eq_of_beq_eq_true e2
     subst e
     cases hc
     refine ⟨_,if_pos rfl,?_⟩
     simp only [aW.di,hkb,List.length_nil]
     exact eD.refl _
    | false=>
     rw [e2] at hc
     rw [if_neg (Nat.ne_of_beq_eq_false e2)]
     refine ⟨_,Kg hc hcv,?_⟩
     rw [show (s.next _).H=cz s.H [(s.N,some (.box [.ow (s.N+1)])),(s.N+1,some (.row q kd []))] from rfl,o_ iV (hs.H id _ hc)]
     exact eD.refl _
  ·simp only [TA.wf]
  ·intro id l hm
   simp only [List.mem_cons,List.not_mem_nil,or_false,Prod.mk.injEq,Option.some.injEq] at hm
   rcases hm with ⟨rfl,h1⟩ | ⟨rfl,h1⟩
   ·cases h1
    simp only [aW.refs,gQ,TA.wf,and_true]
    omega
   ·rw [h1];simp only [aW.refs,gQ]
 ·cases h
def wi:List Nat→Nat→Bool
 | [],_=>false
 | i::r,k=>match Nat.beq k i with
  | true=>true
  | false=>wi r k
def abx (op:BinOp) (b:Bool) (κ:cC→Option R):Option R:=match op with
 | .eql=>κ ⟨.d ⟨.bool,b⟩,[],0⟩
 | .neq=>κ ⟨.d ⟨.bool,!b⟩,[],0⟩
 | _=>none
def ZW (P:Program) (op:BinOp) (t:TypeId) (x:TA) (κ:cC→Option R):Option R:=match P.underlying t with
 | some (.interface _)=>match x with
  | .lit .nilIface=>abx op true κ
  | .nX _ _=>abx op false κ
  | _=>none
 | _=>none
theorem eval_nil (a:Act):a.eval (.const .nilIface)=.nilIface:=rfl
theorem LP (n:Nat) {t:TypeId} {ms:Array (String×TypeId)} (ht:P.underlying t=some (.interface ms)):(Op.equalIn (n+1) t .nilIface .nilIface).run P w=.ok true w∧∀ u v,(Op.equalIn (n+1) t (.iface u v) .nilIface).run P w=.ok false w:=by
 constructor
 ·simp [Op.equalIn,cl ht]
 ·intro u v;simp [Op.equalIn,cl ht]
theorem tz {t:TypeId} {ms:Array (String×TypeId)} (ht:P.underlying t=some (.interface ms)):(Op.equal t .nilIface .nilIface).run P w=.ok true w∧∀ u v,(Op.equal t (.iface u v) .nilIface).run P w=.ok false w:=LP 9999 ht
theorem ZX {o:Oper} {s:bK} {κ:cC→Option R} {z:R} {op:BinOp} {t u:TypeId} {x:Operand} (ho:o.op=.binOp op t x (.const .nilIface) u) (h:ZW P op t (s.val x) κ=some z):we P o s κ z:=by
 unfold ZW at h
 split at h
 ·rename_i ms ht
  split at h
  ·rename_i hx
   have h1:dT s.st x (.lit .nilIface):=b8 hx
   have key:∀ b,(op=.eql∧b=true)∨(op=.neq∧b=false)→db P o s.st ⟨.bool b,[],[]⟩:=fun b hb=>bZ fun {w F O μ K ft a} hs=>by
    have hv:=(h1 hs).IA
    rcases hb with ⟨rfl,rfl⟩ | ⟨rfl,rfl⟩
    ·refine ⟨.bool true,?_,.bool _⟩
     simp [execOp,ho,eqGuard,hv,eval_nil,binOp,(tz ht).1]
    ·refine ⟨.bool false,?_,.bool _⟩
     simp [execOp,ho,eqGuard,hv,eval_nil,binOp,(tz ht).1]
   unfold abx at h
   split at h
   ·exact mM h (key true (.inl ⟨rfl,rfl⟩))
   ·exact mM h (key false (.inr ⟨rfl,rfl⟩))
   ·cases h
  ·rename_i q y hx
   have h1:dT s.st x ((TA.nX q y).av s.H):=b8 hx
   have key:∀ b,(op=.eql∧b=false)∨(op=.neq∧b=true)→db P o s.st ⟨.bool b,[],[]⟩:=fun b hb=>bZ fun {w F O μ K ft a} hs=>by
    have h2:=h1 hs
    simp only [TA.av] at h2
    obtain ⟨v,hv,_⟩:=h2.Bf
    rcases hb with ⟨rfl,rfl⟩ | ⟨rfl,rfl⟩
    ·refine ⟨.bool false,?_,.bool _⟩
     simp [execOp,ho,eqGuard,hv,eval_nil,binOp,(tz ht).2]
    ·refine ⟨.bool true,?_,.bool _⟩
     simp [execOp,ho,eqGuard,hv,eval_nil,binOp,(tz ht).2]
   unfold abx at h
   split at h
   ·exact mM h (key false (.inl ⟨rfl,rfl⟩))
   ·exact mM h (key true (.inr ⟨rfl,rfl⟩))
   ·cases h
  ·cases h
 ·cases h
def agp (P:Program) (H:List (Nat×aW)) (t:TypeId):TA→Bool
 | .rp id _ off=>match aR H id with
  | some (.row u v _)=>match P.underlying t,P.info? t with
   | some d,some ti=>v.d&&Xu u off (cond (IF d) ti.size 1)
   | _,_=>false
  | _=>false
 | _=>false
def rpD (H:List (Nat×aW)):TA→Bool
 | .rp id _ _=>match aR H id with
  | some (.row _ v _)=>v.d
  | _=>false
 | _=>false
def aby (E:Env):Option Nat→Bool
 | some d=>wi E.dp d
 | none=>false
def Kx (E:Env) (d:Option Nat) (bH:List CT):List CT:=match aby E d with
 | true=>bH.reverse
 | false=>bH
theorem NL {E:Env} {d:Option Nat} {bH:List CT} {c:CT} (h:c∈Kx E d bH):c∈bH:=by
 unfold Kx at h
 split at h
 ·exact List.mem_reverse.1 h
 ·exact h
def evT (E:Env) (bH:List CT) (o:Oper) (s:bK) (κ zx:cC→Option R):Option R:=
 match o.op with
 | .call ⟨.value x,⟨args⟩,_⟩=>match s.val x with
  | .fn (.func f) first cap=>I4 (Kx E o.dst bH) f s ((first++args.map s.val)++cap) κ zx
  | _=>none
 | .call ⟨.invoke x name,⟨args⟩,_⟩=>match s.val x with
  | .nX t b=>match NI E.mt t name with
   | some f=>I4 (Kx E o.dst bH) f s (b::args.map s.val) κ zx
   | none=>none
  | _=>none
 | .box t x=>match o.dst with
  | some d=>match wi E.fz d with
   | true=>Ve E s t (s.val x) κ
   | false=>V8 s (s.val x) κ
  | none=>none
 | .alloc t=>match acg E t with
  | some q=>NK E s t (aby E o.dst) q κ
  | none=>L0 E.P s t κ
 | .binOp op t x (.const .nilIface) _=>ZW E.P op t (s.val x) κ
 | .build t ⟨ps⟩=>match E.P.underlying t with
  | some (.array _ _)=>Hr E.P s t ps κ
  | _=>L2 E.P s t ps κ
 | .index t x y=>match E.P.underlying t with
  | some (.array _ _)=>Hs E.P t (s.val x) (s.val y) κ
  | _=>LZ E.P t (s.val x) (s.val y) κ
 | .convert t u x=>match E.P.underlying t with
  | some (.slice _)=>Vf E.P s t u (s.val x) κ
  | _=>Q_ E.P t u (s.val x) κ
 | .makeSlice t x y=>match o.dst with
  | some d=>match wi E.fz d with
   | true=>Rg E s t (s.val x) (s.val y) κ
   | false=>match wi E.dp d with
    | true=>Ro E s t (NC x y) (s.val x) (s.val y) κ
    | false=>Rf E s t (s.val x) (s.val y) κ
  | none=>none
 | .load t x=>match agp E.P s.H t (s.val x) with
  | true=>Rn E.P s t (s.val x) κ
  | false=>Rb E.P s.H t (s.val x) κ
 | .store t x y=>match rpD s.H (s.val x) with
  | true=>NB E.P s.H t (s.val x) (s.val y) κ
  | false=>L1 E.P s.H t (s.val x) (s.val y) κ
 | .buildSlice t n ⟨ps⟩=>match aby E o.dst with
  | true=>Hn E s t n ps κ
  | false=>EA E s t n ps κ
 | .makeMap t none=>Ky E s t κ
 | .lookup t x k ok=>NM E s t (s.val x) (s.val k) ok κ
 | .mapUpdate t m k x=>I5 E s t (s.val m) (s.val k) (s.val x) κ
 | .insert t m k x=>I5 E s t (s.val m) (s.val k) (s.val x) κ
 | _=>ev0 E o s κ
structure vT (E:Env) (bH:List CT):Prop where
 con:∀ c,c∈bH→aU E.P c
 aeD:∀ t n f,(t,n,f)∈E.mt→f_ E.P t n f
theorem Vg {E:Env} {bH:List CT} {o:Oper} {s:bK} {κ zx:cC→Option R} {z:R} (hE:vT E bH) (hs:s.ok) (h:evT E bH o s κ zx=some z):we E.P o s κ z∨EvP E.P o s zx z:=by
 unfold evT at h
 split at h
 ·rename_i x args ts ho
  split at h
  ·rename_i f first cap hx
   exact Hq (Rs ho hx) hs (fun c hc=>hE.con c (NL hc)) h
  ·cases h
 ·rename_i x name args ts ho
  split at h
  ·rename_i t b hx
   split at h
   ·rename_i f hf
    exact Hq (OU ho hx (hE.aeD _ _ _ (NJ hf))) hs (fun c hc=>hE.con c (NL hc)) h
   ·cases h
  ·cases h
 ·rename_i t x ho
  split at h
  ·split at h
   ·exact .inl (XO ho hs h)
   ·exact .inl (SZ ho hs h)
  ·cases h
 ·rename_i t ho
  split at h
  ·exact .inl (Tq ho hs h)
  ·exact .inl (Nr ho hs h)
 ·rename_i op t x u ho;exact .inl (ZX ho h)
 ·rename_i t ps ho
  split at h
  ·exact .inl (OV ho hs h)
  ·exact .inl (Nt ho hs h)
 ·rename_i t x y ho
  split at h
  ·exact .inl (OW ho hs h)
  ·exact .inl (Nn ho h)
 ·rename_i t u x ho
  split at h
  ·exact .inl (XQ ho h)
  ·exact .inl (PS ho h)
 ·rename_i t x y ho
  split at h
  ·split at h
   ·exact .inl (UZ ho hs h)
   ·split at h
    ·exact .inl (U7 ho hs h)
    ·exact .inl (PU ho hs h)
  ·cases h
 ·rename_i t x ho
  split at h
  ·exact .inl (U6 ho hs h)
  ·exact .inl (PT ho hs h)
 ·rename_i t x y ho
  split at h
  ·exact .inl (Tg ho hs h)
  ·exact .inl (Ns ho hs h)
 ·rename_i t n ps ho
  split at h
  ·exact .inl (OT ho hs h)
  ·exact .inl (IV ho hs h)
 ·rename_i ho;exact .inl (Rt ho hs h)
 ·rename_i ho;exact .inl (Tr ho hs h)
 ·rename_i ho;exact .inl (Lo (.inl ho) hs h)
 ·rename_i ho;exact .inl (Lo (.inr ho) hs h)
 ·exact .inl (adp hs h)
inductive Want where
 | yes
 | no
 | on (t:Nat) (b c:Bool)
def NN (ops:Array Oper) (s:bK) (o:Oper):Option Want:=
 match o.guard with
 | none=>some .yes
 | some (j,c)=>match (ops[j]?).bind (·.dst) with
  | some t=>match look s.tm t with
   | .d ⟨.bool,b⟩=>some (.on t b c)
   | .lit (.tuple _)=>some .no
   | _=>none
  | none=>some .no
def adv:Value→Option Bool
 | .bool b=>some b
 | _=>none
theorem abz {ops:Array Oper} {a:Act} {o:Oper} {j t:Nat} {c:Bool} {v:Value} (hg:o.guard=some (j,c)) (ht:(ops[j]?).bind (·.dst)=some t) (hv:a.tmps.getD t undef=v) (hu:v≠undef):
  Region.wanted o (yielded ops a.tmps)=(adv v==some c):=by
 have:a.tmps[t]?=some v:=by
  rcases Nat.lt_or_ge t a.tmps.size with h3 | h3
  ·simpa [h3] using hv
  ·exact absurd (by simpa [Array.getElem?_eq_none h3] using hv.symm) hu
 unfold Region.wanted
 rw [hg]
 simp only [yielded,ht,Option.bind_some,this]
 cases v<;>rfl
theorem oE {ops:Array Oper} {s:bK} {a:Act} {o:Oper} {x:Want} (hs:SR w F O μ K s.st ft a) (h:NN ops s o=some x):
  match x with | .yes=>Region.wanted o (yielded ops a.tmps)=true | .no=>Region.wanted o (yielded ops a.tmps)=false | .on _ b c=>Region.wanted o (yielded ops a.tmps)=(b==c):=by
 unfold NN at h
 split at h
 ·rename_i hg
  cases h
  unfold Region.wanted
  rw [hg]
 ·rename_i j c hg
  split at h
  ·rename_i t ht
   have hv:=hs.tm t
   simp only [bK.st] at hv
   split at h
   ·rename_i b hb
    cases h
    rw [hb] at hv
    simp only [TA.av,cK] at hv
    simp only
    rw [abz hg ht hv.ey (by simp [undef])]
    cases b<;>cases c<;>rfl
   ·rename_i l hb
    cases h
    rw [hb] at hv
    simp only [TA.av] at hv
    have J_:=hv.IA
    simp only
    unfold Region.wanted
    rw [hg]
    simp only [yielded,ht,Option.bind_some]
    rcases Nat.lt_or_ge t a.tmps.size with h3 | h3
    ·have:a.tmps[t]?=some (.tuple l):=by simpa [h3] using J_
     rw [this];simp
    ·rw [Array.getElem?_eq_none h3];simp
   ·cases h
  ·rename_i ht
   cases h
   simp only
   unfold Region.wanted
   rw [hg]
   simp [yielded,ht]
end Go.Proofs.YtljfmaaadnoggaaGreatDoor.cU
