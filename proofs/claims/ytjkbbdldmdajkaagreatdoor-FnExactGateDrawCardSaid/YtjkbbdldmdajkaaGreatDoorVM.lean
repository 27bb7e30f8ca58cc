/- Patterns of values and blocks: what a pattern reads out of a state, and what it makes. No condition. -/
import Derived.Test.YtjkbbdldmdajkaaGreatDoorVLP
set_option linter.unusedSimpArgs false
set_option linter.unusedVariables false
namespace Go.Proofs.YtjkbbdldmdajkaaGreatDoor.c5
open Go Go.RowKit
variable {w w' ss:World} {F F' zT O O' uo:Nat→Prop} {μ aZ jE:Nat→Nat} {K K' C9:Nat→Prop} {ft bX:Nat→Nat→Prop} {P:Program} {R:Type}
inductive sA where
 | any
 | d (t:Ty)
 | agg (ps:List sA)
 | ov (ps:List sA)
 | ow (j:Nat)
 | bs (j n bB:Nat)
 | bp (j off:Nat)
 | mp (j:Nat)
 | fp (t:Ty) (off:Nat)
 | rb (ps:List sA) (off:Nat)
 | oR (t:TypeId) (p:sA)
 | fn (f:Fn) (xs ys:List sA)
 | Qg
 | kb (b:Bool)
inductive Bp where
 | box (ps:List sA)
 | row (t:Ty) (v:RV)
 | dmap (i:Nat)
 | c7 (t:Ty)
 | gone
mutual
def sA.ey:sA→List Ty
 | .d t=>[t]
 | .fp t _=>[t]
 | .agg ps=>zN ps
 | .rb ps _=>zN ps
 | .ov ps=>zN ps
 | .oR _ p=>p.ey
 | .fn _ xs ys=>zN xs++zN ys
 | _=>[]
def zN:List sA→List Ty
 | []=>[]
 | p::r=>p.ey++zN r
end
def Bp.ey:Bp→List Ty
 | .box ps=>zN ps
 | .row t _=>[.sl t]
 | .dmap i=>[.sl (.st i)]
 | .c7 t=>[t]
 | .gone=>[]
def NB:List Bp→List Ty
 | []=>[]
 | b::r=>b.ey++NB r
structure Xs where
 tK:List (Nat×Nat)
 fz:List Nat
def dU:List (Nat×Nat)→Nat→Option Nat
 | [],_=>none
 | (j,id)::r,k=>match Nat.beq k j with
  | true=>some id
  | false=>dU r k
def Xs.asg (e:Xs) (j id:Nat):Option Xs:=
 match dU e.tK j with
 | some b9=>if Nat.beq id b9 then some e else none
 | none=>if e.tK.any fun p=>Nat.beq p.2 id then none else some ⟨(j,id)::e.tK,e.fz⟩
def LU (H:List (Nat×aX)) (t:Ty) (a:TA) (e:Xs):Option (Xs×cG):=
 match a with
 | .ow id=>match aS H id with
  | some (.row u _ xs)=>if t=.sl u then some (⟨e.tK,id::e.fz⟩,⟨.sl u,xs⟩) else none
  | _=>none
 | a=>match td t a with
  | some y=>some (e,y)
  | none=>none
def EP (H:List (Nat×aX)):List Ty→List TA→Xs→Option (Xs×List cG)
 | [],[],e=>some (e,[])
 | t::ts,a::l,e=>match LU H t a e with
  | some (e1,y)=>match EP H ts l e1 with
   | some (e2,r)=>some (e2,y::r)
   | none=>none
  | none=>none
 | _,_,_=>none
def abO (H:List (Nat×aX)) (t:Ty) (a:TA) (e:Xs):Option (Xs×List cG):=
 match t with
 | .st i=>match a with
  | .agg cs=>match EP H (zS i) cs e with
   | some (e1,ds)=>match LL (.st i) ds with
    | some x=>some (e1,[⟨.st i,x⟩])
    | none=>none
   | none=>none
  | _=>none
 | t=>match LU H t a e with
  | some (e1,y)=>some (e1,[y])
  | none=>none
mutual
def ext (H:List (Nat×aX)):sA→TA→Xs→Option (Xs×List cG)
 | .any,_,e=>some (e,[])
 | .d t,a,e=>abO H t a e
 | .agg ps,a,e=>match a with
  | .agg l=>BY H ps l e
  | _=>none
 | .ov ps,a,e=>match a with
  | .ov l=>BY H ps l e
  | _=>none
 | .ow j,a,e=>match a with
  | .ow id=>match e.asg j id with
   | some e1=>some (e1,[])
   | none=>none
  | _=>none
 | .bs j n bB,a,e=>match a with
  | .bs id n' tJ=>if Nat.beq n n'&&Nat.beq bB tJ then (match e.asg j id with
   | some e1=>some (e1,[])
   | none=>none) else none
  | _=>none
 | .bp j off,a,e=>match a with
  | .bp id NC=>if Nat.beq off NC then (match e.asg j id with
   | some e1=>some (e1,[])
   | none=>none) else none
  | _=>none
 | .mp j,a,e=>match a with
  | .mp id=>match e.asg j id with
   | some e1=>some (e1,[])
   | none=>none
  | _=>none
 | .rb ps off,a,e=>match a with
  | .rb l NC=>if Nat.beq off NC then BY H ps l e else none
  | .bp id NC=>if Nat.beq off NC then (match aS H id with
   | some (.box l)=>BY H ps l ⟨e.tK,id::e.fz⟩
   | _=>none) else none
  | _=>none
 | .fp t off,a,e=>match a with
  | .fp u x NC=>if Nat.beq off NC then (if u=t then some (e,[⟨u,x⟩]) else none) else none
  | _=>none
 | .oR t p,a,e=>match a with
  | .oR u b=>if Nat.beq t u then ext H p b e else none
  | _=>none
 | .fn f xs ys,a,e=>match a with
  | .fn g as bs=>if f=g then (match BY H xs as e with
   | some (e1,d1)=>match BY H ys bs e1 with
    | some (e2,d2)=>some (e2,d1++d2)
    | none=>none
   | none=>none) else none
  | _=>none
 | .Qg,a,e=>match a with
  | .lit .nilIface=>some (e,[])
  | _=>none
 | .kb b,a,e=>match a with
  | .d ⟨.bool,c⟩=>match (c:Bool),b with
   | true,true=>some (e,[])
   | false,false=>some (e,[])
   | _,_=>none
  | _=>none
def BY (H:List (Nat×aX)):List sA→List TA→Xs→Option (Xs×List cG)
 | [],l,e=>match l with
  | []=>some (e,[])
  | _=>none
 | p::ps,l,e=>match l with
  | a::l=>match ext H p a e with
   | some (e1,d1)=>match BY H ps l e1 with
    | some (e2,d2)=>some (e2,d1++d2)
    | none=>none
   | none=>none
  | []=>none
end
def C4:cG→TA
 | ⟨.st i,x⟩=>.agg ((get i x).map .d)
 | y=>.d y
mutual
def instP (ρ:Nat→Nat):sA→List cG→Option (TA×List cG)
 | .any,l=>some (.top,l)
 | .d t,l=>match l with
  | y::l=>if y.t=t then some (C4 y,l) else none
  | []=>none
 | .agg ps,l=>match instL ρ ps l with
  | some (as,l)=>some (.agg as,l)
  | none=>none
 | .rb ps off,l=>match instL ρ ps l with
  | some (as,l)=>some (.rb as off,l)
  | none=>none
 | .ov ps,l=>match instL ρ ps l with
  | some (as,l)=>some (.ov as,l)
  | none=>none
 | .ow j,l=>some (.ow (ρ j),l)
 | .bs j n bB,l=>some (.bs (ρ j) n bB,l)
 | .bp j off,l=>some (.bp (ρ j) off,l)
 | .mp j,l=>some (.mp (ρ j),l)
 | .fp t off,l=>match l with
  | ⟨u,x⟩::l=>if u=t then some (.fp u x off,l) else none
  | []=>none
 | .oR t p,l=>match instP ρ p l with
  | some (a,l)=>some (.oR t a,l)
  | none=>none
 | .fn f xs ys,l=>match instL ρ xs l with
  | some (as,l)=>match instL ρ ys l with
   | some (bs,l)=>some (.fn f as bs,l)
   | none=>none
  | none=>none
 | .Qg,l=>some (.lit .nilIface,l)
 | .kb b,l=>some (.d ⟨.bool,b⟩,l)
def instL (ρ:Nat→Nat):List sA→List cG→Option (List TA×List cG)
 | [],l=>some ([],l)
 | p::ps,l=>match instP ρ p l with
  | some (a,l)=>match instL ρ ps l with
   | some (as,l)=>some (a::as,l)
   | none=>none
  | none=>none
end
def abP (H:List (Nat×aX)) (b:Bp) (x:Option aX) (e:Xs):Option (Xs×List cG):=
 match b,x with
 | .box ps,some (.box l)=>BY H ps l e
 | .row t v,some (.row u v' xs)=>if u=t then (match v,v' with
  | .ms,.ms=>some (e,[⟨.sl u,xs⟩])
  | .vs,.vs=>some (e,[⟨.sl u,xs⟩])
  | .dm,.dm=>some (e,[⟨.sl u,xs⟩])
  | .dv,.dv=>some (e,[⟨.sl u,xs⟩])
  | _,_=>none) else none
 | .dmap i,some (.dmap u xs)=>if u=i then some (e,[⟨.sl (.st u),xs⟩]) else none
 | .c7 t,some (.box l)=>match si (FI t) l with
  | some ds=>match LL t ds with
   | some x=>some (e,[⟨t,x⟩])
   | none=>none
  | none=>none
 | _,_=>none
def Ei (H:List (Nat×aX)):List Bp→Nat→Xs→Option (Xs×List cG)
 | [],_,e=>some (e,[])
 | .gone::r,j,e=>match dU e.tK j with
  | none=>none
  | some _=>Ei H r (j+1) e
 | b::r,j,e=>match dU e.tK j with
  | none=>none
  | some id=>match abP H b (aS H id) e with
   | some (e1,d1)=>match Ei H r (j+1) e1 with
    | some (e2,d2)=>some (e2,d1++d2)
    | none=>none
   | none=>none
def instB (ρ:Nat→Nat) (b:Bp) (l:List cG):Option (aX×List cG):=
 match b with
 | .box ps=>match instL ρ ps l with
  | some (as,l)=>some (.box as,l)
  | none=>none
 | .row t v=>match l with
  | ⟨.sl u,xs⟩::l=>if u=t then some (.row u v xs,l) else none
  | _=>none
 | .dmap i=>match l with
  | ⟨.sl (.st u),xs⟩::l=>if u=i then some (.dmap u xs,l) else none
  | _=>none
 | .c7 t=>match l with
  | ⟨u,x⟩::l=>if u=t then some (.box ((dZ u x).map .d),l) else none
  | []=>none
 | .gone=>none
def instBs (ρ:Nat→Nat):List Bp→Nat→List cG→Option (List (Nat×aX)×List cG)
 | [],_,l=>some ([],l)
 | .gone::r,j,l=>instBs ρ r (j+1) l
 | b::r,j,l=>match instB ρ b l with
  | some (x,l)=>match instBs ρ r (j+1) l with
   | some (q,l)=>some ((ρ j,x)::q,l)
   | none=>none
  | none=>none
structure Xs.le (e e':Xs):Prop where
 tK:∀ j id,dU e.tK j=some id→dU e'.tK j=some id
 fz:∀ id,id∈e.fz→id∈e'.fz
theorem Xs.le.refl (e:Xs):e.le e:=⟨fun _ _ h=>h,fun _ h=>h⟩
theorem Xs.le.trans {a b c:Xs} (h:a.le b) (k:b.le c):a.le c:=⟨fun j id q=>k.tK j id (h.tK j id q),fun id q=>k.fz id (h.fz id q)⟩
def Xs.inj (e:Xs):Prop:=∀ j j' id,dU e.tK j=some id→dU e.tK j'=some id→j=j'
theorem mv:∀ {l:List (Nat×Nat)} {j id:Nat},dU l j=some id→(j,id)∈l
 | [],_,_,h=>by cases h
 | (i,x)::r,j,id,h=>by
  simp only [dU] at h;split at h
  ·rename_i e;cases h;rw [Nat.eq_of_beq_eq_true e];simp
  ·exact List.mem_cons_of_mem _ (mv h)
theorem Rn {e e1:Xs} {j id:Nat} (h:e.asg j id=some e1):e.le e1∧dU e1.tK j=some id∧(e.inj→e1.inj)∧e1.fz=e.fz:=by
 unfold Xs.asg at h;split at h
 ·rename_i b9 hj;split at h
  ·rename_i hb;cases h;exact ⟨.refl _,by rw [hj,Nat.eq_of_beq_eq_true hb],fun h=>h,rfl⟩
  ·cases h
 ·rename_i hj;split at h
  ·cases h
  ·rename_i hb;cases h;have hno:∀ j',dU e.tK j'≠some id:=fun j' h=>hb (by
    simp only [List.any_eq_true];exact ⟨_,mv h,by simp⟩)
   refine ⟨⟨fun k b9 hk=>?_,fun _ h=>h⟩,by simp [dU],fun hi a b x ha ck=>?_,rfl⟩
   ·simp only [dU];cases q:Nat.beq k j with
    | true=>have:=Nat.eq_of_beq_eq_true q;subst this;rw [hj] at hk;cases hk
    | false=>exact hk
   ·simp only [dU] at ha ck;cases q:Nat.beq a j<;>rw [q] at ha<;>cases q':Nat.beq b j<;>rw [q'] at ck
    ·exact hi a b x ha ck
    ·cases ck;exact absurd ha (hno a)
    ·cases ha;exact absurd ck (hno b)
    ·rw [Nat.eq_of_beq_eq_true q,Nat.eq_of_beq_eq_true q']
structure Reads (w:World) (F:Nat→Prop) (μ:Nat→Nat) (K:Nat→Prop) (H:List (Nat×aX)) (e:Xs) (F':Nat→Prop) (aZ:Nat→Nat) (K':Nat→Prop) (H':List (Nat×aX)) (ρ:Nat→Nat):Prop where
 fF:∀ b,F b→F' b
 num:∀ j id,dU e.tK j=some id→K id→K' (ρ j)∧aZ (ρ j)=μ id
 row:∀ j id,dU e.tK j=some id→∀ x,fv (aS H' (ρ j))=some x→fv (aS H id)=some x
 fz:∀ id,id∈e.fz→∀ t v (xs:List t.dn),aS H id=some (.row t v xs)→∀ u,VR w F μ K (dh v.b id xs.length (ff t)) u→∀ K2:Nat→Prop,VR w F' aZ K2 (.fs (ff t) xs.length (cz t xs)) u
 bx:∀ id,id∈e.fz→∀ l,aS H id=some (.box l)→∃ cs t,w.heap[μ id]?=some (.cells cs t (0,0))∧F' (μ id)∧l.length≤cs.size∧∀ j,j < l.length→VR w F μ K ((l.getD j .top).av H) (cs.getD j undef)
theorem Reads.of {H H':List (Nat×aX)} {e e':Xs} {ρ:Nat→Nat} (h:Reads w F μ K H e' F' aZ K' H' ρ) (l:e.le e'):Reads w F μ K H e F' aZ K' H' ρ:=
 ⟨h.fF,fun j id q=>h.num j id (l.tK j id q),fun j id q=>h.row j id (l.tK j id q),fun id q=>h.fz id (l.fz id q),fun id q=>h.bx id (l.fz id q)⟩
theorem VR.closed {a:AV} (hc:PI a) {v:Value} (h:VR w F μ K a v) (hF:∀ b,F b→F' b):VR w F' aZ K' a v:=
 (VR.mono (aZ:=μ) (K':=Cv) (hc h) (fun _ _=>rfl) hF (fun _ h=>h.elim) (fun _ h=>h) (fun _ h=>h.elim)).up
theorem ND {H H':List (Nat×aX)} {t:Ty} {a:TA} {e e1:Xs} {y:cG} {ρ:Nat→Nat} (h:LU H t a e=some (e1,y)):e.le e1∧(e.inj→e1.inj)∧e1.tK=e.tK∧y.t=t∧y.t.leaf=true∧
  ∀ {w F μ K F' aZ K' v},Reads w F μ K H e1 F' aZ K' H' ρ→VR w F μ K (a.av H) v→VR w F' aZ K' (cL y) v:=by
 unfold LU at h;split at h
 ·rename_i id;split at h
  ·rename_i u v xs hb;split at h
   ·rename_i ht;cases h;refine ⟨⟨fun _ _ h=>h,fun b9 h=>by simp [h]⟩,fun h=>h,rfl,ht.symm,rfl,fun {w F μ K F' aZ K' u'} hr hv=>?_⟩;simp only [TA.av,fv,hb] at hv;exact hr.fz id (by simp) u v xs hb u' hv K'
   ·cases h
  ·cases h
 ·split at h
  ·rename_i y' hy;cases h;obtain ⟨h1,h2,h3⟩:=ik hy;exact ⟨.refl _,fun h=>h,rfl,h1,h2,fun {w F μ K F' aZ K' u'} hr hv=>VR.closed (fun h=>uq h2 h) (h3 H hv) hr.fF⟩
  ·cases h
theorem IN {H H':List (Nat×aX)} {ρ:Nat→Nat}:∀ {ts:List Ty} {l:List TA} {e e1:Xs} {ds:List cG},EP H ts l e=some (e1,ds)→e.le e1∧(e.inj→e1.inj)∧e1.tK=e.tK∧ds.map (·.t)=ts∧(∀ y,y∈ds→y.t.leaf=true)∧
  ∀ {w F μ K F' aZ K' vs},Reads w F μ K H e1 F' aZ K' H' ρ→gZ w F μ K (di H l) vs→gZ w F' aZ K' (ds.map cL) vs
 | [],[],e,e1,ds,h=>by
  cases h;exact ⟨.refl _,fun h=>h,rfl,rfl,(fun y hy=>by cases hy),fun {w F μ K F' aZ K' vs} hr hv=>by
   simp only [di] at hv;rw [hv.gY];exact .nil⟩
 | [],_::_,e,e1,ds,h=>by cases h
 | _::_,[],e,e1,ds,h=>by cases h
 | t::ts,a::l,e,e1,ds,h=>by
  simp only [EP] at h;split at h
  ·rename_i e2 y hy;split at h
   ·rename_i e3 r hr;cases h;obtain ⟨h1,h2,h3,h4,h5,h6⟩:=ND (H':=H') (ρ:=ρ) hy;obtain ⟨k1,k2,k3,k4,k5,k6⟩:=IN (H':=H') (ρ:=ρ) hr;refine ⟨h1.trans k1,fun h=>k2 (h2 h),k3.trans h3,by simp [h4,k4],fun z hz=>?_,fun {w F μ K F' aZ K' vs} C_ hv=>?_⟩
    ·rcases List.mem_cons.1 hz with e | e
     ·rw [e];exact h5
     ·exact k5 z e
    ·simp only [di] at hv;obtain ⟨v,q,rfl,a1,a2⟩:=hv.cons_inv;exact .cons (h6 (C_.of k1) a1) (k6 C_ a2)
   ·cases h
  ·cases h
theorem LV (H:List (Nat×aX)) (y:cG):(C4 y).av H=cL y:=by
 obtain ⟨t,x⟩:=y;cases t with
 | st i=>
  simp only [C4,TA.av,cL,cW,List.map_map];exact congrArg AV.agg ((List.map_congr_left fun z _=>by simp only [Function.comp,TA.av]).trans (Jx i x))
 | _=>simp only [C4,TA.av]
theorem Wp (H:List (Nat×aX)) (N:Nat) (y:cG):(C4 y).wf H N:=by
 obtain ⟨t,x⟩:=y;cases t with
 | st i=>
  simp only [C4,TA.wf];exact cZ.2 fun a ha=>by
   obtain ⟨z,_,rfl⟩:=List.mem_map.1 ha;simp only [TA.wf]
 | _=>simp only [C4,TA.wf]
theorem abQ {H H':List (Nat×aX)} {ρ:Nat→Nat} {t:Ty} {a:TA} {e e1:Xs} {ds:List cG} (h:abO H t a e=some (e1,ds)):e.le e1∧(e.inj→e1.inj)∧e1.tK=e.tK∧∃ y,ds=[y]∧y.t=t∧
  ∀ {w F μ K F' aZ K' v},Reads w F μ K H e1 F' aZ K' H' ρ→VR w F μ K (a.av H) v→VR w F' aZ K' (cL y) v:=by
 cases t with
 | st i=>
  simp only [abO] at h;split at h
  ·rename_i cs;split at h
   ·rename_i e2 ds' hd;split at h
    ·rename_i x hx;cases h;obtain ⟨h1,h2,h3,h4,h5,h6⟩:=IN (H':=H') (ρ:=ρ) hd;refine ⟨h1,h2,h3,_,rfl,rfl,fun {w F μ K F' aZ K' v} hr hv=>?_⟩;simp only [TA.av] at hv;obtain ⟨vs,rfl,wJ⟩:=hv.fH;have h7:=h6 hr wJ;have h8:cc i x=ds'.map cL:=by
      have:=eU hx;rw [← this];exact (Jx i x).symm
     simp only [cL,h8];exact .qO h7
    ·cases h
   ·cases h
  ·cases h
 | _=>
  simp only [abO] at h;split at h
  ·rename_i e2 y hy;cases h;obtain ⟨h1,h2,h3,h4,h5,h6⟩:=ND (H':=H') (ρ:=ρ) hy;exact ⟨h1,h2,h3,y,rfl,h4,fun {w F μ K F' aZ K' v}=>h6⟩
  ·cases h
mutual
theorem Vc {H H':List (Nat×aX)} {ρ:Nat→Nat}:∀ {p:sA} {a:TA} {e e1:Xs} {ds:List cG},ext H p a e=some (e1,ds)→e.le e1∧(e.inj→e1.inj)∧∀ rest,∃ b,instP ρ p (ds++rest)=some (b,rest)∧
  ∀ {w F μ K F' aZ K' v},Reads w F μ K H e1 F' aZ K' H' ρ→VR w F μ K (a.av H) v→VR w F' aZ K' (b.av H') v
 | .any,a,e,e1,ds,h=>by
  simp only [ext] at h;cases h;exact ⟨.refl _,fun h=>h,fun rest=>⟨_,by simp only [instP,List.nil_append];rfl,fun {w F μ K F' aZ K' v} _ _=>by simp only [TA.av];exact .top _⟩⟩
 | .d t,a,e,e1,ds,h=>by
  simp only [ext] at h;obtain ⟨h1,h2,h3,y,rfl,h4,h5⟩:=abQ (H':=H') (ρ:=ρ) h;refine ⟨h1,h2,fun rest=>⟨C4 y,by simp only [List.cons_append,List.nil_append,instP,if_pos h4],fun {w F μ K F' aZ K' v} hr hv=>?_⟩⟩;rw [LV];exact h5 hr hv
 | .agg ps,a,e,e1,ds,h=>by
  simp only [ext] at h;split at h
  ·rename_i l;obtain ⟨h1,h2,h3⟩:=sm (H':=H') (ρ:=ρ) h;refine ⟨h1,h2,fun rest=>?_⟩;obtain ⟨bs,k1,k2⟩:=h3 rest;refine ⟨_,by simp only [instP,k1];rfl,fun {w F μ K F' aZ K' v} hr hv=>?_⟩;simp only [TA.av] at hv ⊢;obtain ⟨vs,rfl,wJ⟩:=hv.fH;exact .qO (k2 hr wJ)
  ·cases h
 | .rb ps off,a,e,e1,ds,h=>by
  simp only [ext] at h;split at h
  ·rename_i l NC;split at h
   ·rename_i hb;have b1:=Nat.eq_of_beq_eq_true hb;subst b1;obtain ⟨h1,h2,h3⟩:=sm (H':=H') (ρ:=ρ) h;refine ⟨h1,h2,fun rest=>?_⟩;obtain ⟨bs,k1,k2⟩:=h3 rest;refine ⟨_,by simp only [instP,k1];rfl,fun {w F μ K F' aZ K' v} hr hv=>?_⟩;simp only [TA.av] at hv ⊢;cases hv with
    | rb _ _ b u hF hu hv=>
     have wJ:gZ w F μ K (di H l) ((List.range (di H l).length).map u):=⟨by simp,fun i hi=>by
      have:((List.range (di H l).length).map u).getD i undef=u i:=by simp [List.getD,hi]
      rw [this];exact hv i hi⟩
     have k3:=k2 hr wJ;have kl:(di H' bs).length=(di H l).length:=by have:=k3.1;simpa using this
     refine .rb _ _ b u (hr.fF b hF) (fun j hj=>hu j (by omega)) fun j hj=>?_;have k4:=k3.2 j hj;have:((List.range (di H l).length).map u).getD j undef=u j:=by simp [List.getD,show j < (di H l).length by omega]
     rwa [this] at k4
   ·cases h
  ·rename_i id NC;split at h
   ·rename_i hb;have b1:=Nat.eq_of_beq_eq_true hb;subst b1;split at h
    ·rename_i l hl;obtain ⟨h1,h2,h3⟩:=sm (H':=H') (ρ:=ρ) h;have h0:e.le ⟨e.tK,id::e.fz⟩:=⟨fun _ _ q=>q,fun _ q=>List.mem_cons_of_mem _ q⟩;refine ⟨h0.trans h1,fun q=>h2 q,fun rest=>?_⟩;obtain ⟨bs,k1,k2⟩:=h3 rest;refine ⟨_,by simp only [instP,k1];rfl,fun {w F μ K F' aZ K' v} hr hv=>?_⟩;obtain ⟨cs,t,q1,q2,q3,q4⟩:=hr.bx id (h1.fz id (by simp)) l hl;simp only [TA.av] at hv ⊢;cases hv with
     | bp _ _ bZ=>
      have wJ:gZ w F μ K (di H l) ((List.range l.length).map fun j=>cs.getD j undef):=⟨by simp [bC],fun i hi=>by
       rw [bC] at hi;have:((List.range l.length).map fun j=>cs.getD j undef).getD i undef=cs.getD i undef:=by simp [List.getD,hi]
       rw [this,dq _ _ _ hi];exact q4 i hi⟩
      have k3:=k2 hr wJ;have kl:(di H' bs).length=l.length:=by have:=k3.1;simpa using this
      refine .rb _ _ (μ id) (fun j=>cs.getD j undef) q2 (fun j hj=>?_) fun j hj=>?_
      ·have dY:j < cs.size:=by omega
       simp [World.cell?,q1,dY]
      ·have k4:=k3.2 j hj;have:((List.range l.length).map fun j=>cs.getD j undef).getD j undef=cs.getD j undef:=by simp [List.getD,show j < l.length by omega]
       rwa [this] at k4
    ·cases h
   ·cases h
  ·cases h
 | .ov ps,a,e,e1,ds,h=>by
  simp only [ext] at h;split at h
  ·rename_i l;obtain ⟨h1,h2,h3⟩:=sm (H':=H') (ρ:=ρ) h;refine ⟨h1,h2,fun rest=>?_⟩;obtain ⟨bs,k1,k2⟩:=h3 rest;refine ⟨_,by simp only [instP,k1];rfl,fun {w F μ K F' aZ K' v} hr hv=>?_⟩;simp only [TA.av] at hv ⊢;obtain ⟨vs,rfl,wJ⟩:=hv.It;exact .KR (k2 hr wJ)
  ·cases h
 | .ow j,a,e,e1,ds,h=>by
  simp only [ext] at h;split at h
  ·rename_i id;split at h
   ·rename_i e2 he;cases h;obtain ⟨h1,h2,h3,_⟩:=Rn he;refine ⟨h1,h3,fun rest=>⟨_,by simp only [instP,List.nil_append];rfl,fun {w F μ K F' aZ K' v} hr hv=>?_⟩⟩;simp only [TA.av] at hv ⊢;cases hb:fv (aS H' (ρ j)) with
    | none=>exact .top _
    | some x=>
     obtain ⟨t,v',n⟩:=x;rw [hr.row j id h2 _ hb] at hv;simp only at hv ⊢;generalize v'.b=vb at hv ⊢;cases vb with
     | false=>
      cases hv with
      | ms _ _ _ _ cap sz t bZ hc hs fh=>
       obtain ⟨q1,q2⟩:=hr.num j id h2 bZ;simp only [dh];rw [← q2];exact .ms _ _ _ _ cap sz t q1 hc (by rw [q2];exact hs) fh
     | true=>
      simp only [dh] at hv ⊢;cases hv with
      | vs _ _ _ cap sz t hn bZ hc hs fh=>
       obtain ⟨q1,q2⟩:=hr.num j id h2 bZ;rw [← q2];exact .vs _ _ _ cap sz t hn q1 hc (by rw [q2];exact hs) fh
      | sb=>exact .sb _ _ _
   ·cases h
  ·cases h
 | .bs j n bB,a,e,e1,ds,h=>by
  simp only [ext] at h;split at h
  ·rename_i id n' tJ;split at h
   ·rename_i hb;simp only [Bool.and_eq_true] at hb;have b1:=Nat.eq_of_beq_eq_true hb.1;have b2:=Nat.eq_of_beq_eq_true hb.2;subst b1 b2;split at h
    ·rename_i e2 he;cases h;obtain ⟨h1,h2,h3,_⟩:=Rn he;refine ⟨h1,h3,fun rest=>⟨_,by simp only [instP,List.nil_append];rfl,fun {w F μ K F' aZ K' v} hr hv=>?_⟩⟩;simp only [TA.av] at hv ⊢;cases hv with
     | ms _ _ _ _ cap sz t bZ hc hs fh=>
      obtain ⟨q1,q2⟩:=hr.num j id h2 bZ;rw [← q2];exact .ms _ _ _ _ cap sz t q1 hc (by rw [q2];exact hs) fh
    ·cases h
   ·cases h
  ·cases h
 | .bp j off,a,e,e1,ds,h=>by
  simp only [ext] at h;split at h
  ·rename_i id NC;split at h
   ·rename_i hb;have b1:=Nat.eq_of_beq_eq_true hb;subst b1;split at h
    ·rename_i e2 he;cases h;obtain ⟨h1,h2,h3,_⟩:=Rn he;refine ⟨h1,h3,fun rest=>⟨_,by simp only [instP,List.nil_append];rfl,fun {w F μ K F' aZ K' v} hr hv=>?_⟩⟩;simp only [TA.av] at hv ⊢;cases hv with
     | bp _ _ bZ=>
      obtain ⟨q1,q2⟩:=hr.num j id h2 bZ;rw [← q2];exact .bp _ _ q1
    ·cases h
   ·cases h
  ·cases h
 | .mp j,a,e,e1,ds,h=>by
  simp only [ext] at h;split at h
  ·rename_i id;split at h
   ·rename_i e2 he;cases h;obtain ⟨h1,h2,h3,_⟩:=Rn he;refine ⟨h1,h3,fun rest=>⟨_,by simp only [instP,List.nil_append];rfl,fun {w F μ K F' aZ K' v} hr hv=>?_⟩⟩;simp only [TA.av] at hv ⊢;cases hv with
    | mp _ bZ=>
     obtain ⟨q1,q2⟩:=hr.num j id h2 bZ;rw [← q2];exact .mp _ q1
   ·cases h
  ·cases h
 | .fp t off,a,e,e1,ds,h=>by
  simp only [ext] at h;split at h
  ·rename_i u x NC;split at h
   ·rename_i hb;have b1:=Nat.eq_of_beq_eq_true hb;subst b1;split at h
    ·rename_i ht;subst ht;cases h;refine ⟨.refl _,fun h=>h,fun rest=>⟨_,by simp only [List.cons_append,List.nil_append,instP,if_true];rfl,fun {w F μ K F' aZ K' v} hr hv=>?_⟩⟩;simp only [TA.av] at hv ⊢;cases hv with
     | fp _ _ _ b o u' hF hu hv=>exact .fp _ _ _ b o u' (hr.fF b hF) hu fun j hj=>((hv j hj).mono (fun _ _=>rfl) hr.fF (fun _ h=>h.elim) (fun _ h=>h) (fun _ h=>h.elim))
    ·cases h
   ·cases h
  ·cases h
 | .oR t p,a,e,e1,ds,h=>by
  simp only [ext] at h;split at h
  ·rename_i u b;split at h
   ·rename_i ht;have ht:=Nat.eq_of_beq_eq_true ht;subst ht;obtain ⟨h1,h2,h3⟩:=Vc (H':=H') (ρ:=ρ) h;refine ⟨h1,h2,fun rest=>?_⟩;obtain ⟨b',k1,k2⟩:=h3 rest;refine ⟨_,by simp only [instP,k1];rfl,fun {w F μ K F' aZ K' v} hr hv=>?_⟩;simp only [TA.av] at hv ⊢;obtain ⟨u,rfl,hu⟩:=hv.BH;exact .oR _ _ _ (k2 hr hu)
   ·cases h
  ·cases h
 | .fn f xs ys,a,e,e1,ds,h=>by
  simp only [ext] at h;split at h
  ·rename_i g as bs;split at h
   ·rename_i hf;subst hf;split at h
    ·rename_i e2 d1 hx;split at h
     ·rename_i e3 d2 hy;cases h;obtain ⟨h1,h2,h3⟩:=sm (H':=H') (ρ:=ρ) hx;obtain ⟨q1,q2,q3⟩:=sm (H':=H') (ρ:=ρ) hy;refine ⟨h1.trans q1,fun h=>q2 (h2 h),fun rest=>?_⟩;obtain ⟨b1,k1,k2⟩:=h3 (d2++rest);obtain ⟨b2,k3,k4⟩:=q3 rest;refine ⟨_,by simp only [List.append_assoc,instP,k1,k3];rfl,fun {w F μ K F' aZ K' v} hr hv=>?_⟩;simp only [TA.av] at hv ⊢;obtain ⟨vs,us,rfl,a1,a2⟩:=hv.G7;exact .ZB (k2 (hr.of q1) a1) (k4 hr a2)
     ·cases h
    ·cases h
   ·cases h
  ·cases h
 | .Qg,a,e,e1,ds,h=>by
  simp only [ext] at h;split at h
  ·cases h;exact ⟨.refl _,fun h=>h,fun rest=>⟨_,by simp only [instP,List.nil_append];rfl,fun {w F μ K F' aZ K' v} _ hv=>by
    simp only [TA.av] at hv ⊢;rw [hv.Ir];exact .lit _⟩⟩
  ·cases h
 | .kb b,a,e,e1,ds,h=>by
  simp only [ext] at h;split at h
  ·split at h
   ·cases h;exact ⟨.refl _,fun h=>h,fun rest=>⟨_,by simp only [instP,List.nil_append];rfl,fun {w F μ K F' aZ K' v} _ hv=>by
     simp only [TA.av,cL] at hv ⊢;rw [hv.eR];exact .bool _⟩⟩
   ·cases h;exact ⟨.refl _,fun h=>h,fun rest=>⟨_,by simp only [instP,List.nil_append];rfl,fun {w F μ K F' aZ K' v} _ hv=>by
     simp only [TA.av,cL] at hv ⊢;rw [hv.eR];exact .bool _⟩⟩
   ·cases h
  ·cases h
theorem sm {H H':List (Nat×aX)} {ρ:Nat→Nat}:∀ {ps:List sA} {l:List TA} {e e1:Xs} {ds:List cG},BY H ps l e=some (e1,ds)→e.le e1∧(e.inj→e1.inj)∧∀ rest,∃ bs,instL ρ ps (ds++rest)=some (bs,rest)∧
  ∀ {w F μ K F' aZ K' vs},Reads w F μ K H e1 F' aZ K' H' ρ→gZ w F μ K (di H l) vs→gZ w F' aZ K' (di H' bs) vs
 | [],l,e,e1,ds,h=>by
  simp only [BY] at h;split at h
  ·cases h;exact ⟨.refl _,fun h=>h,fun rest=>⟨[],by simp only [instL,List.nil_append],fun {w F μ K F' aZ K' vs} _ hv=>by
    simp only [di] at hv ⊢;rw [hv.gY];exact .nil⟩⟩
  ·cases h
 | p::ps,l,e,e1,ds,h=>by
  simp only [BY] at h;split at h
  ·rename_i a l;split at h
   ·rename_i e2 d1 hx;split at h
    ·rename_i e3 d2 hy;cases h;obtain ⟨h1,h2,h3⟩:=Vc (H':=H') (ρ:=ρ) hx;obtain ⟨q1,q2,q3⟩:=sm (H':=H') (ρ:=ρ) hy;refine ⟨h1.trans q1,fun h=>q2 (h2 h),fun rest=>?_⟩;obtain ⟨b1,k1,k2⟩:=h3 (d2++rest);obtain ⟨b2,k3,k4⟩:=q3 rest;refine ⟨b1::b2,by simp only [List.append_assoc,instL,k1,k3],fun {w F μ K F' aZ K' vs} hr hv=>?_⟩;simp only [di] at hv ⊢;obtain ⟨v,r,rfl,a1,a2⟩:=hv.cons_inv;exact .cons (k2 (hr.of q1) a1) (k4 hr a2)
    ·cases h
   ·cases h
  ·cases h
end
theorem abR {H H':List (Nat×aX)} {ρ:Nat→Nat} {b:Bp} {x:Option aX} {e e1:Xs} {ds:List cG} (h:abP H b x e=some (e1,ds)):e.le e1∧(e.inj→e1.inj)∧∃ B,x=some B∧B.T5=true∧∀ rest,∃ B',instB ρ b (ds++rest)=some (B',rest)∧
  B'.T5=true∧(∀ y,fv (some B')=some y→fv (some B)=some y)∧((B'.du H').eQ=true→(B.du H).eQ=true)∧
  ∀ {w F μ K F' aZ K' S n o},Reads w F μ K H e1 F' aZ K' H' ρ→(∀ x,S x→True)→hP w F μ K S n o (B.du H)→hP w F' aZ K' S n o (B'.du H'):=by
 unfold abP at h;split at h
 ·rename_i ps l;obtain ⟨h1,h2,h3⟩:=sm (H':=H') (ρ:=ρ) h;refine ⟨h1,h2,_,rfl,rfl,fun rest=>?_⟩;obtain ⟨bs,k1,k2⟩:=h3 rest;refine ⟨.box bs,by simp only [instB,k1],rfl,(fun y h=>by cases h),(fun _=>rfl),fun {w F μ K F' aZ K' S n o} hr _ hB=>?_⟩;simp only [aX.du] at hB ⊢;obtain ⟨cs,t,q1,q2,q3,q4⟩:=hB;have:gZ w F μ K (di H l) (cs.toList.take l.length):=by
   refine ⟨by rw [bC] at q3 ⊢;simp;omega,fun i hi=>?_⟩;have:=q4 i hi;rw [bC] at hi q3;have e2:(cs.toList.take l.length).getD i undef=cs.getD i undef:=by
    rw [← jo];simp [List.getD,List.getElem?_take,hi]
   rw [e2];exact this
  have h5:=k2 hr this;have hlen:(di H' bs).length=l.length:=by
   have:=h5.1;rw [bC] at q3;simp at this;omega
  refine ⟨cs,t,q1,q2,by rw [hlen];rw [bC] at q3;exact q3,fun j hj=>?_⟩;have h6:=h5.2 j hj;have e2:(cs.toList.take l.length).getD j undef=cs.getD j undef:=by
   rw [← jo];simp [List.getD,List.getElem?_take,show j < l.length by omega]
  rw [e2] at h6;exact h6
 ·rename_i t v u v' xs;split at h
  ·rename_i ht;subst ht;have fin:v=v'→some (e,[(⟨.sl u,xs⟩:cG)])=some (e1,ds)→e.le e1∧(e.inj→e1.inj)∧∃ B,some (aX.row u v' xs)=some B∧B.T5=true∧∀ rest,∃ B',instB ρ (.row u v) (ds++rest)=some (B',rest)∧
     B'.T5=true∧(∀ y,fv (some B')=some y→fv (some B)=some y)∧((B'.du H').eQ=true→(B.du H).eQ=true)∧
     ∀ {w F μ K F' aZ K' S n o},Reads w F μ K H e1 F' aZ K' H' ρ→(∀ x,S x→True)→hP w F μ K S n o (B.du H)→hP w F' aZ K' S n o (B'.du H'):=by
    intro hvv hh;subst hvv;cases hh;refine ⟨.refl _,fun h=>h,_,rfl,rfl,fun rest=>⟨.row u v xs,by simp only [List.cons_append,List.nil_append,instB,if_true],rfl,fun y h=>h,fun h=>h,fun {w F μ K F' aZ K' S n o} hr _ hB=>?_⟩⟩;simp only [aX.du] at hB ⊢;obtain ⟨cs,t,S',q1,q2⟩:=hB;exact ⟨cs,t,S',q1,{ q2 with cell:=fun i j hi hj=>⟨(q2.cell i j hi hj).1.mono (fun _ _=>rfl) hr.fF fun _ _=>rfl,(q2.cell i j hi hj).2⟩ }⟩
   split at h
   ·exact fin rfl h
   ·exact fin rfl h
   ·exact fin rfl h
   ·exact fin rfl h
   ·cases h
  ·cases h
 ·rename_i i u xs;split at h
  ·rename_i hu;subst hu;cases h;refine ⟨.refl _,fun h=>h,_,rfl,rfl,fun rest=>⟨.dmap u xs,by simp only [List.cons_append,List.nil_append,instB,if_true],rfl,(fun y h=>by cases h),fun h=>h,fun {w F μ K F' aZ K' S n o} hr _ hB=>?_⟩⟩;simp only [aX.du] at hB ⊢;obtain ⟨es,clock,h1,h2,h3,h4,h5⟩:=hB;exact ⟨es,clock,h1,h2,h3,fun i hi=>⟨(h4 i hi).1,((h4 i hi).2.1.up (aZ:=aZ)).mono (fun _ _=>rfl) hr.fF (fun _ h=>h.elim) (fun _ h=>h) (fun _ h=>h.elim),
    ((h4 i hi).2.2.up (aZ:=aZ)).mono (fun _ _=>rfl) hr.fF (fun _ h=>h.elim) (fun _ h=>h) (fun _ h=>h.elim)⟩,h5⟩
  ·cases h
 ·rename_i t l;split at h
  ·rename_i ds sy;split at h
   ·rename_i x hx;cases h;obtain ⟨d1,d2,d3,d4⟩:=nK sy;refine ⟨.refl _,fun h=>h,_,rfl,rfl,fun rest=>⟨.box ((dZ t x).map .d),by simp only [List.cons_append,List.nil_append,instB,if_true],rfl,(fun y h=>by cases h),fun h=>h,fun {w F μ K F' aZ K' S n o} hr _ hB=>?_⟩⟩;simp only [aX.du] at hB ⊢;obtain ⟨cs,ty,h1,h2,h3,h4⟩:=hB;have e1:dZ t x=ds:=eU hx;rw [bC] at h3;refine ⟨cs,ty,h1,h2,by rw [bC,e1];simp;omega,fun j hj=>?_⟩;rw [bC,e1] at hj;simp only [List.length_map] at hj;have mi:j < l.length:=by omega
    have h5:=h4 j (by rw [bC];exact mi);rw [dq _ _ _ mi] at h5;have h6:=d4 H j mi h5;have e2:(di H' ((dZ t x).map .d)).getD j .top=cL ds[j]:=by
     rw [dq _ _ _ (by rw [e1];simpa using hj),e1];simp [List.getD,hj,TA.av]
    have e3:(ds.map cL).getD j .top=cL ds[j]:=by simp [List.getD,hj]
    rw [e2];rw [e3] at h6;exact h6.closed (fun h=>uq (d3 _ (List.getElem_mem hj)) h) hr.fF
   ·cases h
  ·cases h
 ·cases h
theorem Vd {H:List (Nat×aX)} {b:Bp} {r:List Bp} {j:Nat} {e:Xs} (hg:b≠.gone):Ei H (b::r) j e=(match dU e.tK j with
  | none=>none
  | some id=>match abP H b (aS H id) e with
   | some (e1,d1)=>match Ei H r (j+1) e1 with
    | some (e2,d2)=>some (e2,d1++d2)
    | none=>none
   | none=>none):=by
 cases b<;>first | rfl | exact absurd rfl hg
theorem instBs_cons {ρ:Nat→Nat} {b:Bp} {r:List Bp} {j:Nat} {l:List cG} (hg:b≠.gone):instBs ρ (b::r) j l=(match instB ρ b l with
  | some (x,l)=>match instBs ρ r (j+1) l with
   | some (q,l)=>some ((ρ j,x)::q,l)
   | none=>none
  | none=>none):=by
 cases b<;>first | rfl | exact absurd rfl hg
def NF (H H':List (Nat×aX)) (e1:Xs) (ρ:Nat→Nat) (p:Nat×aX):Prop:=
 ∃ j id B,p.1=ρ j∧dU e1.tK j=some id∧aS H id=some B∧B.T5=true∧p.2.T5=true∧(∀ y,fv (some p.2)=some y→fv (some B)=some y)∧((p.2.du H').eQ=true→(B.du H).eQ=true)∧
  ∀ {w F μ K F' aZ K' S n o},Reads w F μ K H e1 F' aZ K' H' ρ→hP w F μ K S n o (B.du H)→hP w F' aZ K' S n o (p.2.du H')
theorem vf {H H':List (Nat×aX)} {ρ:Nat→Nat}:∀ {bs:List Bp} {j0:Nat} {e e1:Xs} {ds:List cG},Ei H bs j0 e=some (e1,ds)→e.le e1∧(e.inj→e1.inj)∧(∀ i,i < bs.length→∃ id,dU e1.tK (j0+i)=some id)∧
  ∀ rest,∃ q,instBs ρ bs j0 (ds++rest)=some (q,rest)∧∀ p,p∈q→NF H H' e1 ρ p∧∃ i,i < bs.length∧p.1=ρ (j0+i)
 | [],j0,e,e1,ds,h=>by
  cases h;exact ⟨.refl _,fun h=>h,(fun i h=>by cases h),fun rest=>⟨[],rfl,fun p h=>by cases h⟩⟩
 | b::r,j0,e,e1,ds,h=>by
  by_cases hg:b=.gone
  ·subst hg;simp only [Ei] at h;split at h
   ·cases h
   ·rename_i id hj;obtain ⟨k1,k2,k4,k3⟩:=vf (H':=H') (ρ:=ρ) h;refine ⟨k1,k2,fun i hi=>?_,fun rest=>?_⟩
    ·cases i with
     | zero=>exact ⟨id,k1.tK _ _ hj⟩
     | succ i=>
      have:=k4 i (by simpa using hi);rwa [show j0+1+i=j0+(i+1) by omega] at this
    ·obtain ⟨q,p1,p2⟩:=k3 rest;refine ⟨q,by simp only [instBs,p1],fun p hp=>⟨(p2 p hp).1,?_⟩⟩;obtain ⟨i,h1,h2⟩:=(p2 p hp).2;exact ⟨i+1,by simp;omega,by rw [h2];congr 1;omega⟩
  ·rw [Vd hg] at h;split at h
   ·cases h
   ·rename_i id hj;split at h
    ·rename_i e2 d1 hb;split at h
     ·rename_i e3 d2 hr;cases h;obtain ⟨h1,h2,B,hB,hBv,h3⟩:=abR (H':=H') (ρ:=ρ) hb;obtain ⟨k1,k2,k4,k3⟩:=vf (H':=H') (ρ:=ρ) hr;refine ⟨h1.trans k1,fun h=>k2 (h2 h),fun i hi=>?_,fun rest=>?_⟩
      ·cases i with
       | zero=>exact ⟨id,(h1.trans k1).tK _ _ hj⟩
       | succ i=>
        have:=k4 i (by simpa using hi);rwa [show j0+1+i=j0+(i+1) by omega] at this
      ·obtain ⟨B',q1,qv,q2,q3,q4⟩:=h3 (d2++rest);obtain ⟨q,p1,p3⟩:=k3 rest;refine ⟨(ρ j0,B')::q,?_,fun p hp=>?_⟩
       ·rw [instBs_cons hg,List.append_assoc,q1];simp only [p1]
       ·rcases List.mem_cons.1 hp with e | e
        ·rw [e];exact ⟨⟨j0,id,B,rfl,(h1.trans k1).tK _ _ hj,hB,hBv,qv,q2,q3,fun {w F μ K F' aZ K' S n o} hr=>q4 (hr.of k1) (fun _ _=>trivial)⟩,0,by simp,rfl⟩
        ·refine ⟨(p3 p e).1,?_⟩;obtain ⟨i,h1,h2⟩:=(p3 p e).2;exact ⟨i+1,by simp;omega,by rw [h2];congr 1;omega⟩
     ·cases h
    ·cases h
end Go.Proofs.YtjkbbdldmdajkaaGreatDoor.c5
