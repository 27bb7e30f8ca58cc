/- Patterns of values and blocks: what a pattern reads out of a state, and what it makes. No condition. -/
import Derived.Test.YtjkbbdldmdajkaaGreatDoorVLP
set_option linter.unusedSimpArgs false
set_option linter.unusedVariables false
namespace Go.Proofs.YtjkbbdldmdajkaaGreatDoor.c_
open Go Go.RowKit
variable {w w' xk:World} {F F' Bs O O' v8:Nat→Prop} {μ bC lG:Nat→Nat} {K K' EF:Nat→Prop} {ft bZ:Nat→Nat→Prop} {P:Program} {R:Type}
inductive vm where
 | any
 | d (t:Ty)
 | agg (ps:List vm)
 | nP (ps:List vm)
 | ow (j:Nat)
 | bs (j n bA:Nat)
 | bp (j off:Nat)
 | mp (j:Nat)
 | fp (t:Ty) (off:Nat)
 | rb (ps:List vm) (off:Nat)
 | pK (t:TypeId) (p:vm)
 | fn (f:Fn) (xs ys:List vm)
 | QH
 | kb (b:Bool)
inductive Bp where
 | box (ps:List vm)
 | row (t:Ty) (v:RV)
 | dmap (i:Nat)
 | cQ (t:Ty)
 | gone
mutual
def vm.eR:vm→List Ty
 | .d t=>[t]
 | .fp t _=>[t]
 | .agg ps=>CE ps
 | .rb ps _=>CE ps
 | .nP ps=>CE ps
 | .pK _ p=>p.eR
 | .fn _ xs ys=>CE xs++CE ys
 | _=>[]
def CE:List vm→List Ty
 | []=>[]
 | p::r=>p.eR++CE r
end
def Bp.eR:Bp→List Ty
 | .box ps=>CE ps
 | .row t _=>[.sl t]
 | .dmap i=>[.sl (.st i)]
 | .cQ t=>[t]
 | .gone=>[]
def RY:List Bp→List Ty
 | []=>[]
 | b::r=>b.eR++RY r
structure Xs where
 uP:List (Nat×Nat)
 fz:List Nat
def ef:List (Nat×Nat)→Nat→Option Nat
 | [],_=>none
 | (j,id)::r,k=>match Nat.beq k j with
  | true=>some id
  | false=>ef r k
def Xs.asg (e:Xs) (j id:Nat):Option Xs:=
 match ef e.uP j with
 | some b9=>if Nat.beq id b9 then some e else none
 | none=>if e.uP.any fun p=>Nat.beq p.2 id then none else some ⟨(j,id)::e.uP,e.fz⟩
def Mn (H:List (Nat×aY)) (t:Ty) (a:TA) (e:Xs):Option (Xs×cN):=
 match a with
 | .ow id=>match aT H id with
  | some (.row u _ xs)=>if t=.sl u then some (⟨e.uP,id::e.fz⟩,⟨.sl u,xs⟩) else none
  | _=>none
 | a=>match uc t a with
  | some y=>some (e,y)
  | none=>none
def Fv (H:List (Nat×aY)):List Ty→List TA→Xs→Option (Xs×List cN)
 | [],[],e=>some (e,[])
 | t::ts,a::l,e=>match Mn H t a e with
  | some (e1,y)=>match Fv H ts l e1 with
   | some (e2,r)=>some (e2,y::r)
   | none=>none
  | none=>none
 | _,_,_=>none
def ach (H:List (Nat×aY)) (t:Ty) (a:TA) (e:Xs):Option (Xs×List cN):=
 match t with
 | .st i=>match a with
  | .agg cs=>match Fv H (AE i) cs e with
   | some (e1,ds)=>match Mg (.st i) ds with
    | some x=>some (e1,[⟨.st i,x⟩])
    | none=>none
   | none=>none
  | _=>none
 | t=>match Mn H t a e with
  | some (e1,y)=>some (e1,[y])
  | none=>none
mutual
def ext (H:List (Nat×aY)):vm→TA→Xs→Option (Xs×List cN)
 | .any,_,e=>some (e,[])
 | .d t,a,e=>ach H t a e
 | .agg ps,a,e=>match a with
  | .agg l=>CF H ps l e
  | _=>none
 | .nP ps,a,e=>match a with
  | .nP l=>CF H ps l e
  | _=>none
 | .ow j,a,e=>match a with
  | .ow id=>match e.asg j id with
   | some e1=>some (e1,[])
   | none=>none
  | _=>none
 | .bs j n bA,a,e=>match a with
  | .bs id n' uO=>if Nat.beq n n'&&Nat.beq bA uO then (match e.asg j id with
   | some e1=>some (e1,[])
   | none=>none) else none
  | _=>none
 | .bp j off,a,e=>match a with
  | .bp id Ob=>if Nat.beq off Ob then (match e.asg j id with
   | some e1=>some (e1,[])
   | none=>none) else none
  | _=>none
 | .mp j,a,e=>match a with
  | .mp id=>match e.asg j id with
   | some e1=>some (e1,[])
   | none=>none
  | _=>none
 | .rb ps off,a,e=>match a with
  | .rb l Ob=>if Nat.beq off Ob then CF H ps l e else none
  | .bp id Ob=>if Nat.beq off Ob then (match aT H id with
   | some (.box l)=>CF H ps l ⟨e.uP,id::e.fz⟩
   | _=>none) else none
  | _=>none
 | .fp t off,a,e=>match a with
  | .fp u x Ob=>if Nat.beq off Ob then (if u=t then some (e,[⟨u,x⟩]) else none) else none
  | _=>none
 | .pK t p,a,e=>match a with
  | .pK u b=>if Nat.beq t u then ext H p b e else none
  | _=>none
 | .fn f xs ys,a,e=>match a with
  | .fn g as bs=>if f=g then (match CF H xs as e with
   | some (e1,d1)=>match CF H ys bs e1 with
    | some (e2,d2)=>some (e2,d1++d2)
    | none=>none
   | none=>none) else none
  | _=>none
 | .QH,a,e=>match a with
  | .lit .nilIface=>some (e,[])
  | _=>none
 | .kb b,a,e=>match a with
  | .d ⟨.bool,c⟩=>match (c:Bool),b with
   | true,true=>some (e,[])
   | false,false=>some (e,[])
   | _,_=>none
  | _=>none
def CF (H:List (Nat×aY)):List vm→List TA→Xs→Option (Xs×List cN)
 | [],l,e=>match l with
  | []=>some (e,[])
  | _=>none
 | p::ps,l,e=>match l with
  | a::l=>match ext H p a e with
   | some (e1,d1)=>match CF H ps l e1 with
    | some (e2,d2)=>some (e2,d1++d2)
    | none=>none
   | none=>none
  | []=>none
end
def DJ:cN→TA
 | ⟨.st i,x⟩=>.agg ((get i x).map .d)
 | y=>.d y
mutual
def instP (ρ:Nat→Nat):vm→List cN→Option (TA×List cN)
 | .any,l=>some (.top,l)
 | .d t,l=>match l with
  | y::l=>if y.t=t then some (DJ y,l) else none
  | []=>none
 | .agg ps,l=>match instL ρ ps l with
  | some (as,l)=>some (.agg as,l)
  | none=>none
 | .rb ps off,l=>match instL ρ ps l with
  | some (as,l)=>some (.rb as off,l)
  | none=>none
 | .nP ps,l=>match instL ρ ps l with
  | some (as,l)=>some (.nP as,l)
  | none=>none
 | .ow j,l=>some (.ow (ρ j),l)
 | .bs j n bA,l=>some (.bs (ρ j) n bA,l)
 | .bp j off,l=>some (.bp (ρ j) off,l)
 | .mp j,l=>some (.mp (ρ j),l)
 | .fp t off,l=>match l with
  | ⟨u,x⟩::l=>if u=t then some (.fp u x off,l) else none
  | []=>none
 | .pK t p,l=>match instP ρ p l with
  | some (a,l)=>some (.pK t a,l)
  | none=>none
 | .fn f xs ys,l=>match instL ρ xs l with
  | some (as,l)=>match instL ρ ys l with
   | some (bs,l)=>some (.fn f as bs,l)
   | none=>none
  | none=>none
 | .QH,l=>some (.lit .nilIface,l)
 | .kb b,l=>some (.d ⟨.bool,b⟩,l)
def instL (ρ:Nat→Nat):List vm→List cN→Option (List TA×List cN)
 | [],l=>some ([],l)
 | p::ps,l=>match instP ρ p l with
  | some (a,l)=>match instL ρ ps l with
   | some (as,l)=>some (a::as,l)
   | none=>none
  | none=>none
end
def aci (H:List (Nat×aY)) (b:Bp) (x:Option aY) (e:Xs):Option (Xs×List cN):=
 match b,x with
 | .box ps,some (.box l)=>CF H ps l e
 | .row t v,some (.row u v' xs)=>if u=t then (match v,v' with
  | .ms,.ms=>some (e,[⟨.sl u,xs⟩])
  | .vs,.vs=>some (e,[⟨.sl u,xs⟩])
  | .dm,.dm=>some (e,[⟨.sl u,xs⟩])
  | .dv,.dv=>some (e,[⟨.sl u,xs⟩])
  | _,_=>none) else none
 | .dmap i,some (.dmap u xs)=>if u=i then some (e,[⟨.sl (.st u),xs⟩]) else none
 | .cQ t,some (.box l)=>match tf (Gr t) l with
  | some ds=>match Mg t ds with
   | some x=>some (e,[⟨t,x⟩])
   | none=>none
  | none=>none
 | _,_=>none
def EX (H:List (Nat×aY)):List Bp→Nat→Xs→Option (Xs×List cN)
 | [],_,e=>some (e,[])
 | .gone::r,j,e=>match ef e.uP j with
  | none=>none
  | some _=>EX H r (j+1) e
 | b::r,j,e=>match ef e.uP j with
  | none=>none
  | some id=>match aci H b (aT H id) e with
   | some (e1,d1)=>match EX H r (j+1) e1 with
    | some (e2,d2)=>some (e2,d1++d2)
    | none=>none
   | none=>none
def instB (ρ:Nat→Nat) (b:Bp) (l:List cN):Option (aY×List cN):=
 match b with
 | .box ps=>match instL ρ ps l with
  | some (as,l)=>some (.box as,l)
  | none=>none
 | .row t v=>match l with
  | ⟨.sl u,xs⟩::l=>if u=t then some (.row u v xs,l) else none
  | _=>none
 | .dmap i=>match l with
  | ⟨.sl (.st u),xs⟩::l=>if u=i then some (.dmap u xs,l) else none
  | _=>none
 | .cQ t=>match l with
  | ⟨u,x⟩::l=>if u=t then some (.box ((ew u x).map .d),l) else none
  | []=>none
 | .gone=>none
def instBs (ρ:Nat→Nat):List Bp→Nat→List cN→Option (List (Nat×aY)×List cN)
 | [],_,l=>some ([],l)
 | .gone::r,j,l=>instBs ρ r (j+1) l
 | b::r,j,l=>match instB ρ b l with
  | some (x,l)=>match instBs ρ r (j+1) l with
   | some (q,l)=>some ((ρ j,x)::q,l)
   | none=>none
  | none=>none
structure Xs.le (e e':Xs):Prop where
 uP:∀ j id,ef e.uP j=some id→ef e'.uP j=some id
 fz:∀ id,id∈e.fz→id∈e'.fz
theorem Xs.le.refl (e:Xs):e.le e:=⟨fun _ _ h=>h,fun _ h=>h⟩
theorem Xs.le.trans {a b c:Xs} (h:a.le b) (k:b.le c):a.le c:=⟨fun j id q=>k.uP j id (h.uP j id q),fun id q=>k.fz id (h.fz id q)⟩
def Xs.inj (e:Xs):Prop:=∀ j j' id,ef e.uP j=some id→ef e.uP j'=some id→j=j'
theorem na:∀ {l:List (Nat×Nat)} {j id:Nat},ef l j=some id→(j,id)∈l
 | [],_,_,h=>by cases h
 | (i,x)::r,j,id,h=>by
  simp only [ef] at h;split at h
  ·rename_i e;cases h;rw [Nat.eq_of_beq_eq_true e];simp
  ·exact List.mem_cons_of_mem _ (na h)
theorem RZ {e e1:Xs} {j id:Nat} (h:e.asg j id=some e1):e.le e1∧ef e1.uP j=some id∧(e.inj→e1.inj)∧e1.fz=e.fz:=by
 unfold Xs.asg at h;split at h
 ·rename_i b9 hj;split at h
  ·rename_i hb;cases h;exact ⟨.refl _,by rw [hj,Nat.eq_of_beq_eq_true hb],fun h=>h,rfl⟩
  ·cases h
 ·rename_i hj;split at h
  ·cases h
  ·rename_i hb;cases h;have hno:∀ j',ef e.uP j'≠some id:=fun j' h=>hb (by
    simp only [List.any_eq_true];exact ⟨_,na h,by simp⟩)
   refine ⟨⟨fun k b9 hk=>?_,fun _ h=>h⟩,by simp [ef],fun hi a b x ha cl=>?_,rfl⟩
   ·simp only [ef];cases q:Nat.beq k j with
    | true=>have:=Nat.eq_of_beq_eq_true q;subst this;rw [hj] at hk;cases hk
    | false=>exact hk
   ·simp only [ef] at ha cl;cases q:Nat.beq a j<;>rw [q] at ha<;>cases q':Nat.beq b j<;>rw [q'] at cl
    ·exact hi a b x ha cl
    ·cases cl;exact absurd ha (hno a)
    ·cases ha;exact absurd cl (hno b)
    ·rw [Nat.eq_of_beq_eq_true q,Nat.eq_of_beq_eq_true q']
structure Reads (w:World) (F:Nat→Prop) (μ:Nat→Nat) (K:Nat→Prop) (H:List (Nat×aY)) (e:Xs) (F':Nat→Prop) (bC:Nat→Nat) (K':Nat→Prop) (H':List (Nat×aY)) (ρ:Nat→Nat):Prop where
 fF:∀ b,F b→F' b
 num:∀ j id,ef e.uP j=some id→K id→K' (ρ j)∧bC (ρ j)=μ id
 row:∀ j id,ef e.uP j=some id→∀ x,fH (aT H' (ρ j))=some x→fH (aT H id)=some x
 fz:∀ id,id∈e.fz→∀ t v (xs:List t.dn),aT H id=some (.row t v xs)→∀ u,VR w F μ K (du v.b id xs.length (fy t)) u→∀ K2:Nat→Prop,VR w F' bC K2 (.fs (fy t) xs.length (cC t xs)) u
 bx:∀ id,id∈e.fz→∀ l,aT H id=some (.box l)→∃ cs t,w.heap[μ id]?=some (.cells cs t (0,0))∧F' (μ id)∧l.length≤cs.size∧∀ j,j < l.length→VR w F μ K ((l.getD j .top).av H) (cs.getD j undef)
theorem Reads.of {H H':List (Nat×aY)} {e e':Xs} {ρ:Nat→Nat} (h:Reads w F μ K H e' F' bC K' H' ρ) (l:e.le e'):Reads w F μ K H e F' bC K' H' ρ:=
 ⟨h.fF,fun j id q=>h.num j id (l.uP j id q),fun j id q=>h.row j id (l.uP j id q),fun id q=>h.fz id (l.fz id q),fun id q=>h.bx id (l.fz id q)⟩
theorem VR.closed {a:AV} (hc:Qb a) {v:Value} (h:VR w F μ K a v) (hF:∀ b,F b→F' b):VR w F' bC K' a v:=
 (VR.mono (bC:=μ) (K':=Dc) (hc h) (fun _ _=>rfl) hF (fun _ h=>h.elim) (fun _ h=>h) (fun _ h=>h.elim)).up
theorem Oc {H H':List (Nat×aY)} {t:Ty} {a:TA} {e e1:Xs} {y:cN} {ρ:Nat→Nat} (h:Mn H t a e=some (e1,y)):e.le e1∧(e.inj→e1.inj)∧e1.uP=e.uP∧y.t=t∧y.t.leaf=true∧
  ∀ {w F μ K F' bC K' v},Reads w F μ K H e1 F' bC K' H' ρ→VR w F μ K (a.av H) v→VR w F' bC K' (cR y) v:=by
 unfold Mn at h;split at h
 ·rename_i id;split at h
  ·rename_i u v xs hb;split at h
   ·rename_i ht;cases h;refine ⟨⟨fun _ _ h=>h,fun b9 h=>by simp [h]⟩,fun h=>h,rfl,ht.symm,rfl,fun {w F μ K F' bC K' u'} hr hv=>?_⟩;simp only [TA.av,fH,hb] at hv;exact hr.fz id (by simp) u v xs hb u' hv K'
   ·cases h
  ·cases h
 ·split at h
  ·rename_i y' hy;cases h;obtain ⟨h1,h2,h3⟩:=iB hy;exact ⟨.refl _,fun h=>h,rfl,h1,h2,fun {w F μ K F' bC K' u'} hr hv=>VR.closed (fun h=>vk h2 h) (h3 H hv) hr.fF⟩
  ·cases h
theorem Jn {H H':List (Nat×aY)} {ρ:Nat→Nat}:∀ {ts:List Ty} {l:List TA} {e e1:Xs} {ds:List cN},Fv H ts l e=some (e1,ds)→e.le e1∧(e.inj→e1.inj)∧e1.uP=e.uP∧ds.map (·.t)=ts∧(∀ y,y∈ds→y.t.leaf=true)∧
  ∀ {w F μ K F' bC K' vs},Reads w F μ K H e1 F' bC K' H' ρ→iL w F μ K (dD H l) vs→iL w F' bC K' (ds.map cR) vs
 | [],[],e,e1,ds,h=>by
  cases h;exact ⟨.refl _,fun h=>h,rfl,rfl,(fun y hy=>by cases hy),fun {w F μ K F' bC K' vs} hr hv=>by
   simp only [dD] at hv;rw [hv.iK];exact .nil⟩
 | [],_::_,e,e1,ds,h=>by cases h
 | _::_,[],e,e1,ds,h=>by cases h
 | t::ts,a::l,e,e1,ds,h=>by
  simp only [Fv] at h;split at h
  ·rename_i e2 y hy;split at h
   ·rename_i e3 r hr;cases h;obtain ⟨h1,h2,h3,h4,h5,h6⟩:=Oc (H':=H') (ρ:=ρ) hy;obtain ⟨k1,k2,k3,k4,k5,k6⟩:=Jn (H':=H') (ρ:=ρ) hr;refine ⟨h1.trans k1,fun h=>k2 (h2 h),k3.trans h3,by simp [h4,k4],fun z hz=>?_,fun {w F μ K F' bC K' vs} DP hv=>?_⟩
    ·rcases List.mem_cons.1 hz with e | e
     ·rw [e];exact h5
     ·exact k5 z e
    ·simp only [dD] at hv;obtain ⟨v,q,rfl,a1,a2⟩:=hv.cons_inv;exact .cons (h6 (DP.of k1) a1) (k6 DP a2)
   ·cases h
  ·cases h
theorem Mo (H:List (Nat×aY)) (y:cN):(DJ y).av H=cR y:=by
 obtain ⟨t,x⟩:=y;cases t with
 | st i=>
  simp only [DJ,TA.av,cR,c7,List.map_map];exact congrArg AV.agg ((List.map_congr_left fun z _=>by simp only [Function.comp,TA.av]).trans (J2 i x))
 | _=>simp only [DJ,TA.av]
theorem WM (H:List (Nat×aY)) (N:Nat) (y:cN):(DJ y).wf H N:=by
 obtain ⟨t,x⟩:=y;cases t with
 | st i=>
  simp only [DJ,TA.wf];exact db.2 fun a ha=>by
   obtain ⟨z,_,rfl⟩:=List.mem_map.1 ha;simp only [TA.wf]
 | _=>simp only [DJ,TA.wf]
theorem acj {H H':List (Nat×aY)} {ρ:Nat→Nat} {t:Ty} {a:TA} {e e1:Xs} {ds:List cN} (h:ach H t a e=some (e1,ds)):e.le e1∧(e.inj→e1.inj)∧e1.uP=e.uP∧∃ y,ds=[y]∧y.t=t∧
  ∀ {w F μ K F' bC K' v},Reads w F μ K H e1 F' bC K' H' ρ→VR w F μ K (a.av H) v→VR w F' bC K' (cR y) v:=by
 cases t with
 | st i=>
  simp only [ach] at h;split at h
  ·rename_i cs;split at h
   ·rename_i e2 ds' hd;split at h
    ·rename_i x hx;cases h;obtain ⟨h1,h2,h3,h4,h5,h6⟩:=Jn (H':=H') (ρ:=ρ) hd;refine ⟨h1,h2,h3,_,rfl,rfl,fun {w F μ K F' bC K' v} hr hv=>?_⟩;simp only [TA.av] at hv;obtain ⟨vs,rfl,zd⟩:=hv.fU;have h7:=h6 hr zd;have h8:cc i x=ds'.map cR:=by
      have:=ff hx;rw [← this];exact (J2 i x).symm
     simp only [cR,h8];exact .rP h7
    ·cases h
   ·cases h
  ·cases h
 | _=>
  simp only [ach] at h;split at h
  ·rename_i e2 y hy;cases h;obtain ⟨h1,h2,h3,h4,h5,h6⟩:=Oc (H':=H') (ρ:=ρ) hy;exact ⟨h1,h2,h3,y,rfl,h4,fun {w F μ K F' bC K' v}=>h6⟩
  ·cases h
mutual
theorem VF {H H':List (Nat×aY)} {ρ:Nat→Nat}:∀ {p:vm} {a:TA} {e e1:Xs} {ds:List cN},ext H p a e=some (e1,ds)→e.le e1∧(e.inj→e1.inj)∧∀ rest,∃ b,instP ρ p (ds++rest)=some (b,rest)∧
  ∀ {w F μ K F' bC K' v},Reads w F μ K H e1 F' bC K' H' ρ→VR w F μ K (a.av H) v→VR w F' bC K' (b.av H') v
 | .any,a,e,e1,ds,h=>by
  simp only [ext] at h;cases h;exact ⟨.refl _,fun h=>h,fun rest=>⟨_,by simp only [instP,List.nil_append];rfl,fun {w F μ K F' bC K' v} _ _=>by simp only [TA.av];exact .top _⟩⟩
 | .d t,a,e,e1,ds,h=>by
  simp only [ext] at h;obtain ⟨h1,h2,h3,y,rfl,h4,h5⟩:=acj (H':=H') (ρ:=ρ) h;refine ⟨h1,h2,fun rest=>⟨DJ y,by simp only [List.cons_append,List.nil_append,instP,if_pos h4],fun {w F μ K F' bC K' v} hr hv=>?_⟩⟩;rw [Mo];exact h5 hr hv
 | .agg ps,a,e,e1,ds,h=>by
  simp only [ext] at h;split at h
  ·rename_i l;obtain ⟨h1,h2,h3⟩:=tj (H':=H') (ρ:=ρ) h;refine ⟨h1,h2,fun rest=>?_⟩;obtain ⟨bs,k1,k2⟩:=h3 rest;refine ⟨_,by simp only [instP,k1];rfl,fun {w F μ K F' bC K' v} hr hv=>?_⟩;simp only [TA.av] at hv ⊢;obtain ⟨vs,rfl,zd⟩:=hv.fU;exact .rP (k2 hr zd)
  ·cases h
 | .rb ps off,a,e,e1,ds,h=>by
  simp only [ext] at h;split at h
  ·rename_i l Ob;split at h
   ·rename_i hb;have b1:=Nat.eq_of_beq_eq_true hb;subst b1;obtain ⟨h1,h2,h3⟩:=tj (H':=H') (ρ:=ρ) h;refine ⟨h1,h2,fun rest=>?_⟩;obtain ⟨bs,k1,k2⟩:=h3 rest;refine ⟨_,by simp only [instP,k1];rfl,fun {w F μ K F' bC K' v} hr hv=>?_⟩;simp only [TA.av] at hv ⊢;cases hv with
    | rb _ _ b u hF hu hv=>
     have zd:iL w F μ K (dD H l) ((List.range (dD H l).length).map u):=⟨by simp,fun i hi=>by
      have:((List.range (dD H l).length).map u).getD i undef=u i:=by simp [List.getD,hi]
      rw [this];exact hv i hi⟩
     have k3:=k2 hr zd;have kl:(dD H' bs).length=(dD H l).length:=by have:=k3.1;simpa using this
     refine .rb _ _ b u (hr.fF b hF) (fun j hj=>hu j (by omega)) fun j hj=>?_;have k4:=k3.2 j hj;have:((List.range (dD H l).length).map u).getD j undef=u j:=by simp [List.getD,show j < (dD H l).length by omega]
     rwa [this] at k4
   ·cases h
  ·rename_i id Ob;split at h
   ·rename_i hb;have b1:=Nat.eq_of_beq_eq_true hb;subst b1;split at h
    ·rename_i l hl;obtain ⟨h1,h2,h3⟩:=tj (H':=H') (ρ:=ρ) h;have h0:e.le ⟨e.uP,id::e.fz⟩:=⟨fun _ _ q=>q,fun _ q=>List.mem_cons_of_mem _ q⟩;refine ⟨h0.trans h1,fun q=>h2 q,fun rest=>?_⟩;obtain ⟨bs,k1,k2⟩:=h3 rest;refine ⟨_,by simp only [instP,k1];rfl,fun {w F μ K F' bC K' v} hr hv=>?_⟩;obtain ⟨cs,t,q1,q2,q3,q4⟩:=hr.bx id (h1.fz id (by simp)) l hl;simp only [TA.av] at hv ⊢;cases hv with
     | bp _ _ bY=>
      have zd:iL w F μ K (dD H l) ((List.range l.length).map fun j=>cs.getD j undef):=⟨by simp [bB],fun i hi=>by
       rw [bB] at hi;have:((List.range l.length).map fun j=>cs.getD j undef).getD i undef=cs.getD i undef:=by simp [List.getD,hi]
       rw [this,dx _ _ _ hi];exact q4 i hi⟩
      have k3:=k2 hr zd;have kl:(dD H' bs).length=l.length:=by have:=k3.1;simpa using this
      refine .rb _ _ (μ id) (fun j=>cs.getD j undef) q2 (fun j hj=>?_) fun j hj=>?_
      ·have dQ:j < cs.size:=by omega
       simp [World.cell?,q1,dQ]
      ·have k4:=k3.2 j hj;have:((List.range l.length).map fun j=>cs.getD j undef).getD j undef=cs.getD j undef:=by simp [List.getD,show j < l.length by omega]
       rwa [this] at k4
    ·cases h
   ·cases h
  ·cases h
 | .nP ps,a,e,e1,ds,h=>by
  simp only [ext] at h;split at h
  ·rename_i l;obtain ⟨h1,h2,h3⟩:=tj (H':=H') (ρ:=ρ) h;refine ⟨h1,h2,fun rest=>?_⟩;obtain ⟨bs,k1,k2⟩:=h3 rest;refine ⟨_,by simp only [instP,k1];rfl,fun {w F μ K F' bC K' v} hr hv=>?_⟩;simp only [TA.av] at hv ⊢;obtain ⟨vs,rfl,zd⟩:=hv.I1;exact .Ls (k2 hr zd)
  ·cases h
 | .ow j,a,e,e1,ds,h=>by
  simp only [ext] at h;split at h
  ·rename_i id;split at h
   ·rename_i e2 he;cases h;obtain ⟨h1,h2,h3,_⟩:=RZ he;refine ⟨h1,h3,fun rest=>⟨_,by simp only [instP,List.nil_append];rfl,fun {w F μ K F' bC K' v} hr hv=>?_⟩⟩;simp only [TA.av] at hv ⊢;cases hb:fH (aT H' (ρ j)) with
    | none=>exact .top _
    | some x=>
     obtain ⟨t,v',n⟩:=x;rw [hr.row j id h2 _ hb] at hv;simp only at hv ⊢;generalize v'.b=vb at hv ⊢;cases vb with
     | false=>
      cases hv with
      | ms _ _ _ _ cap sz t bY hc hs fV=>
       obtain ⟨q1,q2⟩:=hr.num j id h2 bY;simp only [du];rw [← q2];exact .ms _ _ _ _ cap sz t q1 hc (by rw [q2];exact hs) fV
     | true=>
      simp only [du] at hv ⊢;cases hv with
      | vs _ _ _ cap sz t hn bY hc hs fV=>
       obtain ⟨q1,q2⟩:=hr.num j id h2 bY;rw [← q2];exact .vs _ _ _ cap sz t hn q1 hc (by rw [q2];exact hs) fV
      | s9=>exact .s9 _ _ _
   ·cases h
  ·cases h
 | .bs j n bA,a,e,e1,ds,h=>by
  simp only [ext] at h;split at h
  ·rename_i id n' uO;split at h
   ·rename_i hb;simp only [Bool.and_eq_true] at hb;have b1:=Nat.eq_of_beq_eq_true hb.1;have b2:=Nat.eq_of_beq_eq_true hb.2;subst b1 b2;split at h
    ·rename_i e2 he;cases h;obtain ⟨h1,h2,h3,_⟩:=RZ he;refine ⟨h1,h3,fun rest=>⟨_,by simp only [instP,List.nil_append];rfl,fun {w F μ K F' bC K' v} hr hv=>?_⟩⟩;simp only [TA.av] at hv ⊢;cases hv with
     | ms _ _ _ _ cap sz t bY hc hs fV=>
      obtain ⟨q1,q2⟩:=hr.num j id h2 bY;rw [← q2];exact .ms _ _ _ _ cap sz t q1 hc (by rw [q2];exact hs) fV
    ·cases h
   ·cases h
  ·cases h
 | .bp j off,a,e,e1,ds,h=>by
  simp only [ext] at h;split at h
  ·rename_i id Ob;split at h
   ·rename_i hb;have b1:=Nat.eq_of_beq_eq_true hb;subst b1;split at h
    ·rename_i e2 he;cases h;obtain ⟨h1,h2,h3,_⟩:=RZ he;refine ⟨h1,h3,fun rest=>⟨_,by simp only [instP,List.nil_append];rfl,fun {w F μ K F' bC K' v} hr hv=>?_⟩⟩;simp only [TA.av] at hv ⊢;cases hv with
     | bp _ _ bY=>
      obtain ⟨q1,q2⟩:=hr.num j id h2 bY;rw [← q2];exact .bp _ _ q1
    ·cases h
   ·cases h
  ·cases h
 | .mp j,a,e,e1,ds,h=>by
  simp only [ext] at h;split at h
  ·rename_i id;split at h
   ·rename_i e2 he;cases h;obtain ⟨h1,h2,h3,_⟩:=RZ he;refine ⟨h1,h3,fun rest=>⟨_,by simp only [instP,List.nil_append];rfl,fun {w F μ K F' bC K' v} hr hv=>?_⟩⟩;simp only [TA.av] at hv ⊢;cases hv with
    | mp _ bY=>
     obtain ⟨q1,q2⟩:=hr.num j id h2 bY;rw [← q2];exact .mp _ q1
   ·cases h
  ·cases h
 | .fp t off,a,e,e1,ds,h=>by
  simp only [ext] at h;split at h
  ·rename_i u x Ob;split at h
   ·rename_i hb;have b1:=Nat.eq_of_beq_eq_true hb;subst b1;split at h
    ·rename_i ht;subst ht;cases h;refine ⟨.refl _,fun h=>h,fun rest=>⟨_,by simp only [List.cons_append,List.nil_append,instP,if_true];rfl,fun {w F μ K F' bC K' v} hr hv=>?_⟩⟩;simp only [TA.av] at hv ⊢;cases hv with
     | fp _ _ _ b o u' hF hu hv=>exact .fp _ _ _ b o u' (hr.fF b hF) hu fun j hj=>((hv j hj).mono (fun _ _=>rfl) hr.fF (fun _ h=>h.elim) (fun _ h=>h) (fun _ h=>h.elim))
    ·cases h
   ·cases h
  ·cases h
 | .pK t p,a,e,e1,ds,h=>by
  simp only [ext] at h;split at h
  ·rename_i u b;split at h
   ·rename_i ht;have ht:=Nat.eq_of_beq_eq_true ht;subst ht;obtain ⟨h1,h2,h3⟩:=VF (H':=H') (ρ:=ρ) h;refine ⟨h1,h2,fun rest=>?_⟩;obtain ⟨b',k1,k2⟩:=h3 rest;refine ⟨_,by simp only [instP,k1];rfl,fun {w F μ K F' bC K' v} hr hv=>?_⟩;simp only [TA.av] at hv ⊢;obtain ⟨u,rfl,hu⟩:=hv.Co;exact .pK _ _ _ (k2 hr hu)
   ·cases h
  ·cases h
 | .fn f xs ys,a,e,e1,ds,h=>by
  simp only [ext] at h;split at h
  ·rename_i g as bs;split at h
   ·rename_i hf;subst hf;split at h
    ·rename_i e2 d1 hx;split at h
     ·rename_i e3 d2 hy;cases h;obtain ⟨h1,h2,h3⟩:=tj (H':=H') (ρ:=ρ) hx;obtain ⟨q1,q2,q3⟩:=tj (H':=H') (ρ:=ρ) hy;refine ⟨h1.trans q1,fun h=>q2 (h2 h),fun rest=>?_⟩;obtain ⟨b1,k1,k2⟩:=h3 (d2++rest);obtain ⟨b2,k3,k4⟩:=q3 rest;refine ⟨_,by simp only [List.append_assoc,instP,k1,k3];rfl,fun {w F μ K F' bC K' v} hr hv=>?_⟩;simp only [TA.av] at hv ⊢;obtain ⟨vs,us,rfl,a1,a2⟩:=hv.Kq;exact .aah (k2 (hr.of q1) a1) (k4 hr a2)
     ·cases h
    ·cases h
   ·cases h
  ·cases h
 | .QH,a,e,e1,ds,h=>by
  simp only [ext] at h;split at h
  ·cases h;exact ⟨.refl _,fun h=>h,fun rest=>⟨_,by simp only [instP,List.nil_append];rfl,fun {w F μ K F' bC K' v} _ hv=>by
    simp only [TA.av] at hv ⊢;rw [hv.I0];exact .lit _⟩⟩
  ·cases h
 | .kb b,a,e,e1,ds,h=>by
  simp only [ext] at h;split at h
  ·split at h
   ·cases h;exact ⟨.refl _,fun h=>h,fun rest=>⟨_,by simp only [instP,List.nil_append];rfl,fun {w F μ K F' bC K' v} _ hv=>by
     simp only [TA.av,cR] at hv ⊢;rw [hv.fe];exact .bool _⟩⟩
   ·cases h;exact ⟨.refl _,fun h=>h,fun rest=>⟨_,by simp only [instP,List.nil_append];rfl,fun {w F μ K F' bC K' v} _ hv=>by
     simp only [TA.av,cR] at hv ⊢;rw [hv.fe];exact .bool _⟩⟩
   ·cases h
  ·cases h
theorem tj {H H':List (Nat×aY)} {ρ:Nat→Nat}:∀ {ps:List vm} {l:List TA} {e e1:Xs} {ds:List cN},CF H ps l e=some (e1,ds)→e.le e1∧(e.inj→e1.inj)∧∀ rest,∃ bs,instL ρ ps (ds++rest)=some (bs,rest)∧
  ∀ {w F μ K F' bC K' vs},Reads w F μ K H e1 F' bC K' H' ρ→iL w F μ K (dD H l) vs→iL w F' bC K' (dD H' bs) vs
 | [],l,e,e1,ds,h=>by
  simp only [CF] at h;split at h
  ·cases h;exact ⟨.refl _,fun h=>h,fun rest=>⟨[],by simp only [instL,List.nil_append],fun {w F μ K F' bC K' vs} _ hv=>by
    simp only [dD] at hv ⊢;rw [hv.iK];exact .nil⟩⟩
  ·cases h
 | p::ps,l,e,e1,ds,h=>by
  simp only [CF] at h;split at h
  ·rename_i a l;split at h
   ·rename_i e2 d1 hx;split at h
    ·rename_i e3 d2 hy;cases h;obtain ⟨h1,h2,h3⟩:=VF (H':=H') (ρ:=ρ) hx;obtain ⟨q1,q2,q3⟩:=tj (H':=H') (ρ:=ρ) hy;refine ⟨h1.trans q1,fun h=>q2 (h2 h),fun rest=>?_⟩;obtain ⟨b1,k1,k2⟩:=h3 (d2++rest);obtain ⟨b2,k3,k4⟩:=q3 rest;refine ⟨b1::b2,by simp only [List.append_assoc,instL,k1,k3],fun {w F μ K F' bC K' vs} hr hv=>?_⟩;simp only [dD] at hv ⊢;obtain ⟨v,r,rfl,a1,a2⟩:=hv.cons_inv;exact .cons (k2 (hr.of q1) a1) (k4 hr a2)
    ·cases h
   ·cases h
  ·cases h
end
theorem ack {H H':List (Nat×aY)} {ρ:Nat→Nat} {b:Bp} {x:Option aY} {e e1:Xs} {ds:List cN} (h:aci H b x e=some (e1,ds)):e.le e1∧(e.inj→e1.inj)∧∃ B,x=some B∧B.Uy=true∧∀ rest,∃ B',instB ρ b (ds++rest)=some (B',rest)∧
  B'.Uy=true∧(∀ y,fH (some B')=some y→fH (some B)=some y)∧((B'.dC H').fc=true→(B.dC H).fc=true)∧
  ∀ {w F μ K F' bC K' S n o},Reads w F μ K H e1 F' bC K' H' ρ→(∀ x,S x→True)→ik w F μ K S n o (B.dC H)→ik w F' bC K' S n o (B'.dC H'):=by
 unfold aci at h;split at h
 ·rename_i ps l;obtain ⟨h1,h2,h3⟩:=tj (H':=H') (ρ:=ρ) h;refine ⟨h1,h2,_,rfl,rfl,fun rest=>?_⟩;obtain ⟨bs,k1,k2⟩:=h3 rest;refine ⟨.box bs,by simp only [instB,k1],rfl,(fun y h=>by cases h),(fun _=>rfl),fun {w F μ K F' bC K' S n o} hr _ hB=>?_⟩;simp only [aY.dC] at hB ⊢;obtain ⟨cs,t,q1,q2,q3,q4⟩:=hB;have:iL w F μ K (dD H l) (cs.toList.take l.length):=by
   refine ⟨by rw [bB] at q3 ⊢;simp;omega,fun i hi=>?_⟩;have:=q4 i hi;rw [bB] at hi q3;have e2:(cs.toList.take l.length).getD i undef=cs.getD i undef:=by
    rw [← jG];simp [List.getD,List.getElem?_take,hi]
   rw [e2];exact this
  have h5:=k2 hr this;have hlen:(dD H' bs).length=l.length:=by
   have:=h5.1;rw [bB] at q3;simp at this;omega
  refine ⟨cs,t,q1,q2,by rw [hlen];rw [bB] at q3;exact q3,fun j hj=>?_⟩;have h6:=h5.2 j hj;have e2:(cs.toList.take l.length).getD j undef=cs.getD j undef:=by
   rw [← jG];simp [List.getD,List.getElem?_take,show j < l.length by omega]
  rw [e2] at h6;exact h6
 ·rename_i t v u v' xs;split at h
  ·rename_i ht;subst ht;have fin:v=v'→some (e,[(⟨.sl u,xs⟩:cN)])=some (e1,ds)→e.le e1∧(e.inj→e1.inj)∧∃ B,some (aY.row u v' xs)=some B∧B.Uy=true∧∀ rest,∃ B',instB ρ (.row u v) (ds++rest)=some (B',rest)∧
     B'.Uy=true∧(∀ y,fH (some B')=some y→fH (some B)=some y)∧((B'.dC H').fc=true→(B.dC H).fc=true)∧
     ∀ {w F μ K F' bC K' S n o},Reads w F μ K H e1 F' bC K' H' ρ→(∀ x,S x→True)→ik w F μ K S n o (B.dC H)→ik w F' bC K' S n o (B'.dC H'):=by
    intro hvv hh;subst hvv;cases hh;refine ⟨.refl _,fun h=>h,_,rfl,rfl,fun rest=>⟨.row u v xs,by simp only [List.cons_append,List.nil_append,instB,if_true],rfl,fun y h=>h,fun h=>h,fun {w F μ K F' bC K' S n o} hr _ hB=>?_⟩⟩;simp only [aY.dC] at hB ⊢;obtain ⟨cs,t,S',q1,q2⟩:=hB;exact ⟨cs,t,S',q1,{ q2 with cell:=fun i j hi hj=>⟨(q2.cell i j hi hj).1.mono (fun _ _=>rfl) hr.fF fun _ _=>rfl,(q2.cell i j hi hj).2⟩ }⟩
   split at h
   ·exact fin rfl h
   ·exact fin rfl h
   ·exact fin rfl h
   ·exact fin rfl h
   ·cases h
  ·cases h
 ·rename_i i u xs;split at h
  ·rename_i hu;subst hu;cases h;refine ⟨.refl _,fun h=>h,_,rfl,rfl,fun rest=>⟨.dmap u xs,by simp only [List.cons_append,List.nil_append,instB,if_true],rfl,(fun y h=>by cases h),fun h=>h,fun {w F μ K F' bC K' S n o} hr _ hB=>?_⟩⟩;simp only [aY.dC] at hB ⊢;obtain ⟨es,clock,h1,h2,h3,h4,h5⟩:=hB;exact ⟨es,clock,h1,h2,h3,fun i hi=>⟨(h4 i hi).1,((h4 i hi).2.1.up (bC:=bC)).mono (fun _ _=>rfl) hr.fF (fun _ h=>h.elim) (fun _ h=>h) (fun _ h=>h.elim),
    ((h4 i hi).2.2.up (bC:=bC)).mono (fun _ _=>rfl) hr.fF (fun _ h=>h.elim) (fun _ h=>h) (fun _ h=>h.elim)⟩,h5⟩
  ·cases h
 ·rename_i t l;split at h
  ·rename_i ds tt;split at h
   ·rename_i x hx;cases h;obtain ⟨d1,d2,d3,d4⟩:=oB tt;refine ⟨.refl _,fun h=>h,_,rfl,rfl,fun rest=>⟨.box ((ew t x).map .d),by simp only [List.cons_append,List.nil_append,instB,if_true],rfl,(fun y h=>by cases h),fun h=>h,fun {w F μ K F' bC K' S n o} hr _ hB=>?_⟩⟩;simp only [aY.dC] at hB ⊢;obtain ⟨cs,ty,h1,h2,h3,h4⟩:=hB;have e1:ew t x=ds:=ff hx;rw [bB] at h3;refine ⟨cs,ty,h1,h2,by rw [bB,e1];simp;omega,fun j hj=>?_⟩;rw [bB,e1] at hj;simp only [List.length_map] at hj;have mR:j < l.length:=by omega
    have h5:=h4 j (by rw [bB];exact mR);rw [dx _ _ _ mR] at h5;have h6:=d4 H j mR h5;have e2:(dD H' ((ew t x).map .d)).getD j .top=cR ds[j]:=by
     rw [dx _ _ _ (by rw [e1];simpa using hj),e1];simp [List.getD,hj,TA.av]
    have e3:(ds.map cR).getD j .top=cR ds[j]:=by simp [List.getD,hj]
    rw [e2];rw [e3] at h6;exact h6.closed (fun h=>vk (d3 _ (List.getElem_mem hj)) h) hr.fF
   ·cases h
  ·cases h
 ·cases h
theorem VG {H:List (Nat×aY)} {b:Bp} {r:List Bp} {j:Nat} {e:Xs} (hg:b≠.gone):EX H (b::r) j e=(match ef e.uP j with
  | none=>none
  | some id=>match aci H b (aT H id) e with
   | some (e1,d1)=>match EX H r (j+1) e1 with
    | some (e2,d2)=>some (e2,d1++d2)
    | none=>none
   | none=>none):=by
 cases b<;>first | rfl | exact absurd rfl hg
theorem instBs_cons {ρ:Nat→Nat} {b:Bp} {r:List Bp} {j:Nat} {l:List cN} (hg:b≠.gone):instBs ρ (b::r) j l=(match instB ρ b l with
  | some (x,l)=>match instBs ρ r (j+1) l with
   | some (q,l)=>some ((ρ j,x)::q,l)
   | none=>none
  | none=>none):=by
 cases b<;>first | rfl | exact absurd rfl hg
def Od (H H':List (Nat×aY)) (e1:Xs) (ρ:Nat→Nat) (p:Nat×aY):Prop:=
 ∃ j id B,p.1=ρ j∧ef e1.uP j=some id∧aT H id=some B∧B.Uy=true∧p.2.Uy=true∧(∀ y,fH (some p.2)=some y→fH (some B)=some y)∧((p.2.dC H').fc=true→(B.dC H).fc=true)∧
  ∀ {w F μ K F' bC K' S n o},Reads w F μ K H e1 F' bC K' H' ρ→ik w F μ K S n o (B.dC H)→ik w F' bC K' S n o (p.2.dC H')
theorem wb {H H':List (Nat×aY)} {ρ:Nat→Nat}:∀ {bs:List Bp} {j0:Nat} {e e1:Xs} {ds:List cN},EX H bs j0 e=some (e1,ds)→e.le e1∧(e.inj→e1.inj)∧(∀ i,i < bs.length→∃ id,ef e1.uP (j0+i)=some id)∧
  ∀ rest,∃ q,instBs ρ bs j0 (ds++rest)=some (q,rest)∧∀ p,p∈q→Od H H' e1 ρ p∧∃ i,i < bs.length∧p.1=ρ (j0+i)
 | [],j0,e,e1,ds,h=>by
  cases h;exact ⟨.refl _,fun h=>h,(fun i h=>by cases h),fun rest=>⟨[],rfl,fun p h=>by cases h⟩⟩
 | b::r,j0,e,e1,ds,h=>by
  by_cases hg:b=.gone
  ·subst hg;simp only [EX] at h;split at h
   ·cases h
   ·rename_i id hj;obtain ⟨k1,k2,k4,k3⟩:=wb (H':=H') (ρ:=ρ) h;refine ⟨k1,k2,fun i hi=>?_,fun rest=>?_⟩
    ·cases i with
     | zero=>exact ⟨id,k1.uP _ _ hj⟩
     | succ i=>
      have:=k4 i (by simpa using hi);rwa [show j0+1+i=j0+(i+1) by omega] at this
    ·obtain ⟨q,p1,p2⟩:=k3 rest;refine ⟨q,by simp only [instBs,p1],fun p hp=>⟨(p2 p hp).1,?_⟩⟩;obtain ⟨i,h1,h2⟩:=(p2 p hp).2;exact ⟨i+1,by simp;omega,by rw [h2];congr 1;omega⟩
  ·rw [VG hg] at h;split at h
   ·cases h
   ·rename_i id hj;split at h
    ·rename_i e2 d1 hb;split at h
     ·rename_i e3 d2 hr;cases h;obtain ⟨h1,h2,B,hB,hBv,h3⟩:=ack (H':=H') (ρ:=ρ) hb;obtain ⟨k1,k2,k4,k3⟩:=wb (H':=H') (ρ:=ρ) hr;refine ⟨h1.trans k1,fun h=>k2 (h2 h),fun i hi=>?_,fun rest=>?_⟩
      ·cases i with
       | zero=>exact ⟨id,(h1.trans k1).uP _ _ hj⟩
       | succ i=>
        have:=k4 i (by simpa using hi);rwa [show j0+1+i=j0+(i+1) by omega] at this
      ·obtain ⟨B',q1,qv,q2,q3,q4⟩:=h3 (d2++rest);obtain ⟨q,p1,p3⟩:=k3 rest;refine ⟨(ρ j0,B')::q,?_,fun p hp=>?_⟩
       ·rw [instBs_cons hg,List.append_assoc,q1];simp only [p1]
       ·rcases List.mem_cons.1 hp with e | e
        ·rw [e];exact ⟨⟨j0,id,B,rfl,(h1.trans k1).uP _ _ hj,hB,hBv,qv,q2,q3,fun {w F μ K F' bC K' S n o} hr=>q4 (hr.of k1) (fun _ _=>trivial)⟩,0,by simp,rfl⟩
        ·refine ⟨(p3 p e).1,?_⟩;obtain ⟨i,h1,h2⟩:=(p3 p e).2;exact ⟨i+1,by simp;omega,by rw [h2];congr 1;omega⟩
     ·cases h
    ·cases h
end Go.Proofs.YtjkbbdldmdajkaaGreatDoor.c_
