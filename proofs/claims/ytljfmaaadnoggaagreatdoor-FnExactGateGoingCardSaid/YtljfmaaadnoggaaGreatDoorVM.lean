/- Patterns of values and blocks: what a pattern reads out of a state, and what it makes. No condition. -/
import Derived.Test.YtljfmaaadnoggaaGreatDoorVLP
set_option linter.unusedSimpArgs false
set_option linter.unusedVariables false
namespace Go.Proofs.YtljfmaaadnoggaaGreatDoor.cX
open Go Go.RowKit
variable {w w' xW:World} {F F' Cq O O' wx:Nat→Prop} {μ bC kZ:Nat→Nat} {K K' Gg:Nat→Prop} {ft b8:Nat→Nat→Prop} {P:Program} {R:Type}
inductive wR where
 | any
 | d (t:Ty)
 | agg (ps:List wR)
 | ph (ps:List wR)
 | ow (j:Nat)
 | bs (j n bB:Nat)
 | bp (j off:Nat)
 | mp (j:Nat)
 | fp (t:Ty) (off:Nat)
 | pe (t:TypeId) (p:wR)
 | fn (f:Fn) (xs ys:List wR)
 | QV
 | kb (b:Bool)
inductive Bp where
 | box (ps:List wR)
 | row (t:Ty) (v:RV)
 | dmap (i:Nat)
 | b_ (t:Ty)
 | gone
mutual
def wR.ef:wR→List Ty
 | .d t=>[t]
 | .fp t _=>[t]
 | .agg ps=>ES ps
 | .ph ps=>ES ps
 | .pe _ p=>p.ef
 | .fn _ xs ys=>ES xs++ES ys
 | _=>[]
def ES:List wR→List Ty
 | []=>[]
 | p::r=>p.ef++ES r
end
def Bp.ef:Bp→List Ty
 | .box ps=>ES ps
 | .row t _=>[.sl t]
 | .dmap i=>[.sl (.st i)]
 | .b_ t=>[t]
 | .gone=>[]
def Uh:List Bp→List Ty
 | []=>[]
 | b::r=>b.ef++Uh r
structure Xs where
 wB:List (Nat×Nat)
 fz:List Nat
def dR:List (Nat×Nat)→Nat→Option Nat
 | [],_=>none
 | (j,id)::r,k=>match Nat.beq k j with
  | true=>some id
  | false=>dR r k
def Xs.asg (e:Xs) (j id:Nat):Option Xs:=
 match dR e.wB j with
 | some cg=>if Nat.beq id cg then some e else none
 | none=>if e.wB.any fun p=>Nat.beq p.2 id then none else some ⟨(j,id)::e.wB,e.fz⟩
def Ov (H:List (Nat×aY)) (t:Ty) (a:TA) (e:Xs):Option (Xs×cI):=
 match a with
 | .ow id=>match aR H id with
  | some (.row u _ xs)=>if t=.sl u then some (⟨e.wB,id::e.fz⟩,⟨.sl u,xs⟩) else none
  | _=>none
 | a=>match ui t a with
  | some y=>some (e,y)
  | none=>none
def G_ (H:List (Nat×aY)):List Ty→List TA→Xs→Option (Xs×List cI)
 | [],[],e=>some (e,[])
 | t::ts,a::l,e=>match Ov H t a e with
  | some (e1,y)=>match G_ H ts l e1 with
   | some (e2,r)=>some (e2,y::r)
   | none=>none
  | none=>none
 | _,_,_=>none
def aea (H:List (Nat×aY)) (t:Ty) (a:TA) (e:Xs):Option (Xs×List cI):=
 match t with
 | .st i=>match a with
  | .agg cs=>match G_ H (BE i) cs e with
   | some (e1,ds)=>match Ok (.st i) ds with
    | some x=>some (e1,[⟨.st i,x⟩])
    | none=>none
   | none=>none
  | _=>none
 | t=>match Ov H t a e with
  | some (e1,y)=>some (e1,[y])
  | none=>none
mutual
def ext (H:List (Nat×aY)):wR→TA→Xs→Option (Xs×List cI)
 | .any,_,e=>some (e,[])
 | .d t,a,e=>aea H t a e
 | .agg ps,a,e=>match a with
  | .agg l=>Gy H ps l e
  | _=>none
 | .ph ps,a,e=>match a with
  | .ph l=>Gy H ps l e
  | _=>none
 | .ow j,a,e=>match a with
  | .ow id=>match e.asg j id with
   | some e1=>some (e1,[])
   | none=>none
  | _=>none
 | .bs j n bB,a,e=>match a with
  | .bs id n' uR=>if Nat.beq n n'&&Nat.beq bB uR then (match e.asg j id with
   | some e1=>some (e1,[])
   | none=>none) else none
  | _=>none
 | .bp j off,a,e=>match a with
  | .bp id acI=>if Nat.beq off acI then (match e.asg j id with
   | some e1=>some (e1,[])
   | none=>none) else none
  | _=>none
 | .mp j,a,e=>match a with
  | .mp id=>match e.asg j id with
   | some e1=>some (e1,[])
   | none=>none
  | _=>none
 | .fp t off,a,e=>match a with
  | .fp u x acI=>if Nat.beq off acI then (if u=t then some (e,[⟨u,x⟩]) else none) else none
  | _=>none
 | .pe t p,a,e=>match a with
  | .pe u b=>if Nat.beq t u then ext H p b e else none
  | _=>none
 | .fn f xs ys,a,e=>match a with
  | .fn g as bs=>if f=g then (match Gy H xs as e with
   | some (e1,d1)=>match Gy H ys bs e1 with
    | some (e2,d2)=>some (e2,d1++d2)
    | none=>none
   | none=>none) else none
  | _=>none
 | .QV,a,e=>match a with
  | .lit .nilIface=>some (e,[])
  | _=>none
 | .kb b,a,e=>match a with
  | .d ⟨.bool,c⟩=>match (c:Bool),b with
   | true,true=>some (e,[])
   | false,false=>some (e,[])
   | _,_=>none
  | _=>none
def Gy (H:List (Nat×aY)):List wR→List TA→Xs→Option (Xs×List cI)
 | [],l,e=>match l with
  | []=>some (e,[])
  | _=>none
 | p::ps,l,e=>match l with
  | a::l=>match ext H p a e with
   | some (e1,d1)=>match Gy H ps l e1 with
    | some (e2,d2)=>some (e2,d1++d2)
    | none=>none
   | none=>none
  | []=>none
end
def ET:cI→TA
 | ⟨.st i,x⟩=>.agg ((get i x).map .d)
 | y=>.d y
mutual
def instP (ρ:Nat→Nat):wR→List cI→Option (TA×List cI)
 | .any,l=>some (.top,l)
 | .d t,l=>match l with
  | y::l=>if y.t=t then some (ET y,l) else none
  | []=>none
 | .agg ps,l=>match instL ρ ps l with
  | some (as,l)=>some (.agg as,l)
  | none=>none
 | .ph ps,l=>match instL ρ ps l with
  | some (as,l)=>some (.ph as,l)
  | none=>none
 | .ow j,l=>some (.ow (ρ j),l)
 | .bs j n bB,l=>some (.bs (ρ j) n bB,l)
 | .bp j off,l=>some (.bp (ρ j) off,l)
 | .mp j,l=>some (.mp (ρ j),l)
 | .fp t off,l=>match l with
  | ⟨u,x⟩::l=>if u=t then some (.fp u x off,l) else none
  | []=>none
 | .pe t p,l=>match instP ρ p l with
  | some (a,l)=>some (.pe t a,l)
  | none=>none
 | .fn f xs ys,l=>match instL ρ xs l with
  | some (as,l)=>match instL ρ ys l with
   | some (bs,l)=>some (.fn f as bs,l)
   | none=>none
  | none=>none
 | .QV,l=>some (.lit .nilIface,l)
 | .kb b,l=>some (.d ⟨.bool,b⟩,l)
def instL (ρ:Nat→Nat):List wR→List cI→Option (List TA×List cI)
 | [],l=>some ([],l)
 | p::ps,l=>match instP ρ p l with
  | some (a,l)=>match instL ρ ps l with
   | some (as,l)=>some (a::as,l)
   | none=>none
  | none=>none
end
def aeb (H:List (Nat×aY)) (b:Bp) (x:Option aY) (e:Xs):Option (Xs×List cI):=
 match b,x with
 | .box ps,some (.box l)=>Gy H ps l e
 | .row t v,some (.row u v' xs)=>if u=t then (match v,v' with
  | .ms,.ms=>some (e,[⟨.sl u,xs⟩])
  | .vs,.vs=>some (e,[⟨.sl u,xs⟩])
  | .dm,.dm=>some (e,[⟨.sl u,xs⟩])
  | .dv,.dv=>some (e,[⟨.sl u,xs⟩])
  | _,_=>none) else none
 | .dmap i,some (.dmap u xs)=>if u=i then some (e,[⟨.sl (.st u),xs⟩]) else none
 | .b_ t,some (.box l)=>match tq (Ie t) l with
  | some ds=>match Ok t ds with
   | some x=>some (e,[⟨t,x⟩])
   | none=>none
  | none=>none
 | _,_=>none
def Gz (H:List (Nat×aY)):List Bp→Nat→Xs→Option (Xs×List cI)
 | [],_,e=>some (e,[])
 | .gone::r,j,e=>match dR e.wB j with
  | none=>none
  | some _=>Gz H r (j+1) e
 | b::r,j,e=>match dR e.wB j with
  | none=>none
  | some id=>match aeb H b (aR H id) e with
   | some (e1,d1)=>match Gz H r (j+1) e1 with
    | some (e2,d2)=>some (e2,d1++d2)
    | none=>none
   | none=>none
def instB (ρ:Nat→Nat) (b:Bp) (l:List cI):Option (aY×List cI):=
 match b with
 | .box ps=>match instL ρ ps l with
  | some (as,l)=>some (.box as,l)
  | none=>none
 | .row t v=>match l with
  | ⟨.sl u,xs⟩::l=>if u=t then some (.row u v xs,l) else none
  | _=>none
 | .dmap i=>match l with
  | ⟨.sl (.st u),xs⟩::l=>if u=i then some (.dmap u xs,l) else none
  | _=>none
 | .b_ t=>match l with
  | ⟨u,x⟩::l=>if u=t then some (.box ((dV u x).map .d),l) else none
  | []=>none
 | .gone=>none
def instBs (ρ:Nat→Nat):List Bp→Nat→List cI→Option (List (Nat×aY)×List cI)
 | [],_,l=>some ([],l)
 | .gone::r,j,l=>instBs ρ r (j+1) l
 | b::r,j,l=>match instB ρ b l with
  | some (x,l)=>match instBs ρ r (j+1) l with
   | some (q,l)=>some ((ρ j,x)::q,l)
   | none=>none
  | none=>none
structure Xs.le (e e':Xs):Prop where
 wB:∀ j id,dR e.wB j=some id→dR e'.wB j=some id
 fz:∀ id,id∈e.fz→id∈e'.fz
theorem Xs.le.refl (e:Xs):e.le e:=⟨fun _ _ h=>h,fun _ h=>h⟩
theorem Xs.le.trans {a b c:Xs} (h:a.le b) (k:b.le c):a.le c:=⟨fun j id q=>k.wB j id (h.wB j id q),fun id q=>k.fz id (h.fz id q)⟩
def Xs.inj (e:Xs):Prop:=∀ j j' id,dR e.wB j=some id→dR e.wB j'=some id→j=j'
theorem mM:∀ {l:List (Nat×Nat)} {j id:Nat},dR l j=some id→(j,id)∈l
 | [],_,_,h=>by cases h
 | (i,x)::r,j,id,h=>by
  simp only [dR] at h
  split at h
  ·rename_i e
   cases h
   rw [Nat.eq_of_beq_eq_true e];simp
  ·exact List.mem_cons_of_mem _ (mM h)
theorem Ui {e e1:Xs} {j id:Nat} (h:e.asg j id=some e1):e.le e1∧dR e1.wB j=some id∧(e.inj→e1.inj)∧e1.fz=e.fz:=by
 unfold Xs.asg at h
 split at h
 ·rename_i cg hj
  split at h
  ·rename_i hb
   cases h
   exact ⟨.refl _,by rw [hj,Nat.eq_of_beq_eq_true hb],fun h=>h,rfl⟩
  ·cases h
 ·rename_i hj
  split at h
  ·cases h
  ·rename_i hb
   cases h
   have hno:∀ j',dR e.wB j'≠some id:=fun j' h=>hb (by
    simp only [List.any_eq_true]
    exact ⟨_,mM h,by simp⟩)
   refine ⟨⟨fun k cg hk=>?_,fun _ h=>h⟩,by simp [dR],fun hi a b x ha cu=>?_,rfl⟩
   ·simp only [dR]
    cases q:Nat.beq k j with
    | true=>have:=Nat.eq_of_beq_eq_true q;subst this;rw [hj] at hk;cases hk
    | false=>exact hk
   ·simp only [dR] at ha cu
    cases q:Nat.beq a j<;>rw [q] at ha<;>cases q':Nat.beq b j<;>rw [q'] at cu
    ·exact hi a b x ha cu
    ·cases cu;exact absurd ha (hno a)
    ·cases ha;exact absurd cu (hno b)
    ·rw [Nat.eq_of_beq_eq_true q,Nat.eq_of_beq_eq_true q']
structure Reads (w:World) (F:Nat→Prop) (μ:Nat→Nat) (K:Nat→Prop) (H:List (Nat×aY)) (e:Xs) (F':Nat→Prop) (bC:Nat→Nat) (K':Nat→Prop) (H':List (Nat×aY)) (ρ:Nat→Nat):Prop where
 fF:∀ b,F b→F' b
 num:∀ j id,dR e.wB j=some id→K id→K' (ρ j)∧bC (ρ j)=μ id
 row:∀ j id,dR e.wB j=some id→∀ x,fM (aR H' (ρ j))=some x→fM (aR H id)=some x
 fz:∀ id,id∈e.fz→∀ t v (xs:List t.dn),aR H id=some (.row t v xs)→∀ u,VR w F μ K (dr v.b id xs.length (fg t)) u→∀ K2:Nat→Prop,VR w F' bC K2 (.fs (fg t) xs.length (cC t xs)) u
theorem Reads.of {H H':List (Nat×aY)} {e e':Xs} {ρ:Nat→Nat} (h:Reads w F μ K H e' F' bC K' H' ρ) (l:e.le e'):Reads w F μ K H e F' bC K' H' ρ:=
 ⟨h.fF,fun j id q=>h.num j id (l.wB j id q),fun j id q=>h.row j id (l.wB j id q),fun id q=>h.fz id (l.fz id q)⟩
theorem VR.closed {a:AV} (hc:Sh a) {v:Value} (h:VR w F μ K a v) (hF:∀ b,F b→F' b):VR w F' bC K' a v:=
 (VR.mono (bC:=μ) (K':=Ei) (hc h) (fun _ _=>rfl) hF (fun _ h=>h.elim) (fun _ h=>h) (fun _ h=>h.elim)).up
theorem Qf {H H':List (Nat×aY)} {t:Ty} {a:TA} {e e1:Xs} {y:cI} {ρ:Nat→Nat} (h:Ov H t a e=some (e1,y)):e.le e1∧(e.inj→e1.inj)∧e1.wB=e.wB∧y.t=t∧y.t.leaf=true∧
  ∀ {w F μ K F' bC K' v},Reads w F μ K H e1 F' bC K' H' ρ→VR w F μ K (a.av H) v→VR w F' bC K' (cN y) v:=by
 unfold Ov at h
 split at h
 ·rename_i id
  split at h
  ·rename_i u v xs hb
   split at h
   ·rename_i ht
    cases h
    refine ⟨⟨fun _ _ h=>h,fun cg h=>by simp [h]⟩,fun h=>h,rfl,ht.symm,rfl,fun {w F μ K F' bC K' u'} hr hv=>?_⟩
    simp only [TA.av,fM,hb] at hv
    exact hr.fz id (by simp) u v xs hb u' hv K'
   ·cases h
  ·cases h
 ·split at h
  ·rename_i y' hy
   cases h
   obtain ⟨h1,h2,h3⟩:=ix hy
   exact ⟨.refl _,fun h=>h,rfl,h1,h2,fun {w F μ K F' bC K' u'} hr hv=>VR.closed (fun h=>vo h2 h) (h3 H hv) hr.fF⟩
  ·cases h
theorem Lj {H H':List (Nat×aY)} {ρ:Nat→Nat}:∀ {ts:List Ty} {l:List TA} {e e1:Xs} {ds:List cI},G_ H ts l e=some (e1,ds)→e.le e1∧(e.inj→e1.inj)∧e1.wB=e.wB∧ds.map (·.t)=ts∧(∀ y,y∈ds→y.t.leaf=true)∧
  ∀ {w F μ K F' bC K' vs},Reads w F μ K H e1 F' bC K' H' ρ→iR w F μ K (dU H l) vs→iR w F' bC K' (ds.map cN) vs
 | [],[],e,e1,ds,h=>by
  cases h
  exact ⟨.refl _,fun h=>h,rfl,rfl,(fun y hy=>by cases hy),fun {w F μ K F' bC K' vs} hr hv=>by
   simp only [dU] at hv
   rw [hv.iH];exact .nil⟩
 | [],_::_,e,e1,ds,h=>by cases h
 | _::_,[],e,e1,ds,h=>by cases h
 | t::ts,a::l,e,e1,ds,h=>by
  simp only [G_] at h
  split at h
  ·rename_i e2 y hy
   split at h
   ·rename_i e3 r hr
    cases h
    obtain ⟨h1,h2,h3,h4,h5,h6⟩:=Qf (H':=H') (ρ:=ρ) hy
    obtain ⟨k1,k2,k3,k4,k5,k6⟩:=Lj (H':=H') (ρ:=ρ) hr
    refine ⟨h1.trans k1,fun h=>k2 (h2 h),k3.trans h3,by simp [h4,k4],fun z hz=>?_,fun {w F μ K F' bC K' vs} EZ hv=>?_⟩
    ·rcases List.mem_cons.1 hz with e | e
     ·rw [e];exact h5
     ·exact k5 z e
    ·simp only [dU] at hv
     obtain ⟨v,q,rfl,a1,a2⟩:=hv.cons_inv
     exact .cons (h6 (EZ.of k1) a1) (k6 EZ a2)
   ·cases h
  ·cases h
theorem Ow (H:List (Nat×aY)) (y:cI):(ET y).av H=cN y:=by
 obtain ⟨t,x⟩:=y
 cases t with
 | st i=>
  simp only [ET,TA.av,cN,cV,List.map_map]
  exact congrArg AV.agg ((List.map_congr_left fun z _=>by simp only [Function.comp,TA.av]).trans (L3 i x))
 | _=>simp only [ET,TA.av]
theorem Zo (H:List (Nat×aY)) (N:Nat) (y:cI):(ET y).wf H N:=by
 obtain ⟨t,x⟩:=y
 cases t with
 | st i=>
  simp only [ET,TA.wf]
  exact c8.2 fun a ha=>by
   obtain ⟨z,_,rfl⟩:=List.mem_map.1 ha
   simp only [TA.wf]
 | _=>simp only [ET,TA.wf]
theorem aec {H H':List (Nat×aY)} {ρ:Nat→Nat} {t:Ty} {a:TA} {e e1:Xs} {ds:List cI} (h:aea H t a e=some (e1,ds)):e.le e1∧(e.inj→e1.inj)∧e1.wB=e.wB∧∃ y,ds=[y]∧y.t=t∧
  ∀ {w F μ K F' bC K' v},Reads w F μ K H e1 F' bC K' H' ρ→VR w F μ K (a.av H) v→VR w F' bC K' (cN y) v:=by
 cases t with
 | st i=>
  simp only [aea] at h
  split at h
  ·rename_i cs
   split at h
   ·rename_i e2 ds' hd
    split at h
    ·rename_i x hx
     cases h
     obtain ⟨h1,h2,h3,h4,h5,h6⟩:=Lj (H':=H') (ρ:=ρ) hd
     refine ⟨h1,h2,h3,_,rfl,rfl,fun {w F μ K F' bC K' v} hr hv=>?_⟩
     simp only [TA.av] at hv
     obtain ⟨vs,rfl,CN⟩:=hv.fK
     have h7:=h6 hr CN
     have h8:cc i x=ds'.map cN:=by
      have:=eU hx
      rw [← this]
      exact (L3 i x).symm
     simp only [cN,h8]
     exact .rE h7
    ·cases h
   ·cases h
  ·cases h
 | _=>
  simp only [aea] at h
  split at h
  ·rename_i e2 y hy
   cases h
   obtain ⟨h1,h2,h3,h4,h5,h6⟩:=Qf (H':=H') (ρ:=ρ) hy
   exact ⟨h1,h2,h3,y,rfl,h4,fun {w F μ K F' bC K' v}=>h6⟩
  ·cases h
mutual
theorem X8 {H H':List (Nat×aY)} {ρ:Nat→Nat}:∀ {p:wR} {a:TA} {e e1:Xs} {ds:List cI},ext H p a e=some (e1,ds)→e.le e1∧(e.inj→e1.inj)∧∀ rest,∃ b,instP ρ p (ds++rest)=some (b,rest)∧
  ∀ {w F μ K F' bC K' v},Reads w F μ K H e1 F' bC K' H' ρ→VR w F μ K (a.av H) v→VR w F' bC K' (b.av H') v
 | .any,a,e,e1,ds,h=>by
  simp only [ext] at h
  cases h
  exact ⟨.refl _,fun h=>h,fun rest=>⟨_,by simp only [instP,List.nil_append];rfl,fun {w F μ K F' bC K' v} _ _=>by simp only [TA.av];exact .top _⟩⟩
 | .d t,a,e,e1,ds,h=>by
  simp only [ext] at h
  obtain ⟨h1,h2,h3,y,rfl,h4,h5⟩:=aec (H':=H') (ρ:=ρ) h
  refine ⟨h1,h2,fun rest=>⟨ET y,by simp only [List.cons_append,List.nil_append,instP,if_pos h4],fun {w F μ K F' bC K' v} hr hv=>?_⟩⟩
  rw [Ow]
  exact h5 hr hv
 | .agg ps,a,e,e1,ds,h=>by
  simp only [ext] at h
  split at h
  ·rename_i l
   obtain ⟨h1,h2,h3⟩:=yj (H':=H') (ρ:=ρ) h
   refine ⟨h1,h2,fun rest=>?_⟩
   obtain ⟨bs,k1,k2⟩:=h3 rest
   refine ⟨_,by simp only [instP,k1];rfl,fun {w F μ K F' bC K' v} hr hv=>?_⟩
   simp only [TA.av] at hv ⊢
   obtain ⟨vs,rfl,CN⟩:=hv.fK
   exact .rE (k2 hr CN)
  ·cases h
 | .ph ps,a,e,e1,ds,h=>by
  simp only [ext] at h
  split at h
  ·rename_i l
   obtain ⟨h1,h2,h3⟩:=yj (H':=H') (ρ:=ρ) h
   refine ⟨h1,h2,fun rest=>?_⟩
   obtain ⟨bs,k1,k2⟩:=h3 rest
   refine ⟨_,by simp only [instP,k1];rfl,fun {w F μ K F' bC K' v} hr hv=>?_⟩
   simp only [TA.av] at hv ⊢
   obtain ⟨vs,rfl,CN⟩:=hv.KU
   exact .Nx (k2 hr CN)
  ·cases h
 | .ow j,a,e,e1,ds,h=>by
  simp only [ext] at h
  split at h
  ·rename_i id
   split at h
   ·rename_i e2 he
    cases h
    obtain ⟨h1,h2,h3,_⟩:=Ui he
    refine ⟨h1,h3,fun rest=>⟨_,by simp only [instP,List.nil_append];rfl,fun {w F μ K F' bC K' v} hr hv=>?_⟩⟩
    simp only [TA.av] at hv ⊢
    cases hb:fM (aR H' (ρ j)) with
    | none=>exact .top _
    | some x=>
     obtain ⟨t,v',n⟩:=x
     rw [hr.row j id h2 _ hb] at hv
     simp only at hv ⊢
     generalize v'.b=vb at hv ⊢
     cases vb with
     | false=>
      cases hv with
      | ms _ _ _ _ cap sz t cb hc hs fL=>
       obtain ⟨q1,q2⟩:=hr.num j id h2 cb
       simp only [dr]
       rw [← q2]
       exact .ms _ _ _ _ cap sz t q1 hc (by rw [q2];exact hs) fL
     | true=>
      simp only [dr] at hv ⊢
      cases hv with
      | vs _ _ _ cap sz t hn cb hc hs fL=>
       obtain ⟨q1,q2⟩:=hr.num j id h2 cb
       rw [← q2]
       exact .vs _ _ _ cap sz t hn q1 hc (by rw [q2];exact hs) fL
      | xV=>exact .xV _ _ _
   ·cases h
  ·cases h
 | .bs j n bB,a,e,e1,ds,h=>by
  simp only [ext] at h
  split at h
  ·rename_i id n' uR
   split at h
   ·rename_i hb
    simp only [Bool.and_eq_true] at hb
    have b1:=Nat.eq_of_beq_eq_true hb.1
    have b2:=Nat.eq_of_beq_eq_true hb.2
    subst b1 b2
    split at h
    ·rename_i e2 he
     cases h
     obtain ⟨h1,h2,h3,_⟩:=Ui he
     refine ⟨h1,h3,fun rest=>⟨_,by simp only [instP,List.nil_append];rfl,fun {w F μ K F' bC K' v} hr hv=>?_⟩⟩
     simp only [TA.av] at hv ⊢
     cases hv with
     | ms _ _ _ _ cap sz t cb hc hs fL=>
      obtain ⟨q1,q2⟩:=hr.num j id h2 cb
      rw [← q2]
      exact .ms _ _ _ _ cap sz t q1 hc (by rw [q2];exact hs) fL
    ·cases h
   ·cases h
  ·cases h
 | .bp j off,a,e,e1,ds,h=>by
  simp only [ext] at h
  split at h
  ·rename_i id acI
   split at h
   ·rename_i hb
    have b1:=Nat.eq_of_beq_eq_true hb
    subst b1
    split at h
    ·rename_i e2 he
     cases h
     obtain ⟨h1,h2,h3,_⟩:=Ui he
     refine ⟨h1,h3,fun rest=>⟨_,by simp only [instP,List.nil_append];rfl,fun {w F μ K F' bC K' v} hr hv=>?_⟩⟩
     simp only [TA.av] at hv ⊢
     cases hv with
     | bp _ _ cb=>
      obtain ⟨q1,q2⟩:=hr.num j id h2 cb
      rw [← q2]
      exact .bp _ _ q1
    ·cases h
   ·cases h
  ·cases h
 | .mp j,a,e,e1,ds,h=>by
  simp only [ext] at h
  split at h
  ·rename_i id
   split at h
   ·rename_i e2 he
    cases h
    obtain ⟨h1,h2,h3,_⟩:=Ui he
    refine ⟨h1,h3,fun rest=>⟨_,by simp only [instP,List.nil_append];rfl,fun {w F μ K F' bC K' v} hr hv=>?_⟩⟩
    simp only [TA.av] at hv ⊢
    cases hv with
    | mp _ cb=>
     obtain ⟨q1,q2⟩:=hr.num j id h2 cb
     rw [← q2]
     exact .mp _ q1
   ·cases h
  ·cases h
 | .fp t off,a,e,e1,ds,h=>by
  simp only [ext] at h
  split at h
  ·rename_i u x acI
   split at h
   ·rename_i hb
    have b1:=Nat.eq_of_beq_eq_true hb
    subst b1
    split at h
    ·rename_i ht
     subst ht
     cases h
     refine ⟨.refl _,fun h=>h,fun rest=>⟨_,by simp only [List.cons_append,List.nil_append,instP,if_true];rfl,fun {w F μ K F' bC K' v} hr hv=>?_⟩⟩
     simp only [TA.av] at hv ⊢
     cases hv with
     | fp _ _ _ b o u' hF hu hv=>exact .fp _ _ _ b o u' (hr.fF b hF) hu fun j hj=>((hv j hj).mono (fun _ _=>rfl) hr.fF (fun _ h=>h.elim) (fun _ h=>h) (fun _ h=>h.elim))
    ·cases h
   ·cases h
  ·cases h
 | .pe t p,a,e,e1,ds,h=>by
  simp only [ext] at h
  split at h
  ·rename_i u b
   split at h
   ·rename_i ht
    have ht:=Nat.eq_of_beq_eq_true ht
    subst ht
    obtain ⟨h1,h2,h3⟩:=X8 (H':=H') (ρ:=ρ) h
    refine ⟨h1,h2,fun rest=>?_⟩
    obtain ⟨b',k1,k2⟩:=h3 rest
    refine ⟨_,by simp only [instP,k1];rfl,fun {w F μ K F' bC K' v} hr hv=>?_⟩
    simp only [TA.av] at hv ⊢
    obtain ⟨u,rfl,hu⟩:=hv.Dm
    exact .pe _ _ _ (k2 hr hu)
   ·cases h
  ·cases h
 | .fn f xs ys,a,e,e1,ds,h=>by
  simp only [ext] at h
  split at h
  ·rename_i g as bs
   split at h
   ·rename_i hf
    subst hf
    split at h
    ·rename_i e2 d1 hx
     split at h
     ·rename_i e3 d2 hy
      cases h
      obtain ⟨h1,h2,h3⟩:=yj (H':=H') (ρ:=ρ) hx
      obtain ⟨q1,q2,q3⟩:=yj (H':=H') (ρ:=ρ) hy
      refine ⟨h1.trans q1,fun h=>q2 (h2 h),fun rest=>?_⟩
      obtain ⟨b1,k1,k2⟩:=h3 (d2++rest)
      obtain ⟨b2,k3,k4⟩:=q3 rest
      refine ⟨_,by simp only [List.append_assoc,instP,k1,k3];rfl,fun {w F μ K F' bC K' v} hr hv=>?_⟩
      simp only [TA.av] at hv ⊢
      obtain ⟨vs,us,rfl,a1,a2⟩:=hv.Ms
      exact .aca (k2 (hr.of q1) a1) (k4 hr a2)
     ·cases h
    ·cases h
   ·cases h
  ·cases h
 | .QV,a,e,e1,ds,h=>by
  simp only [ext] at h
  split at h
  ·cases h
   exact ⟨.refl _,fun h=>h,fun rest=>⟨_,by simp only [instP,List.nil_append];rfl,fun {w F μ K F' bC K' v} _ hv=>by
    simp only [TA.av] at hv ⊢
    rw [hv.KT];exact .lit _⟩⟩
  ·cases h
 | .kb b,a,e,e1,ds,h=>by
  simp only [ext] at h
  split at h
  ·split at h
   ·cases h
    exact ⟨.refl _,fun h=>h,fun rest=>⟨_,by simp only [instP,List.nil_append];rfl,fun {w F μ K F' bC K' v} _ hv=>by
     simp only [TA.av,cN] at hv ⊢
     rw [hv.eR];exact .bool _⟩⟩
   ·cases h
    exact ⟨.refl _,fun h=>h,fun rest=>⟨_,by simp only [instP,List.nil_append];rfl,fun {w F μ K F' bC K' v} _ hv=>by
     simp only [TA.av,cN] at hv ⊢
     rw [hv.eR];exact .bool _⟩⟩
   ·cases h
  ·cases h
theorem yj {H H':List (Nat×aY)} {ρ:Nat→Nat}:∀ {ps:List wR} {l:List TA} {e e1:Xs} {ds:List cI},Gy H ps l e=some (e1,ds)→e.le e1∧(e.inj→e1.inj)∧∀ rest,∃ bs,instL ρ ps (ds++rest)=some (bs,rest)∧
  ∀ {w F μ K F' bC K' vs},Reads w F μ K H e1 F' bC K' H' ρ→iR w F μ K (dU H l) vs→iR w F' bC K' (dU H' bs) vs
 | [],l,e,e1,ds,h=>by
  simp only [Gy] at h
  split at h
  ·cases h
   exact ⟨.refl _,fun h=>h,fun rest=>⟨[],by simp only [instL,List.nil_append],fun {w F μ K F' bC K' vs} _ hv=>by
    simp only [dU] at hv ⊢
    rw [hv.iH];exact .nil⟩⟩
  ·cases h
 | p::ps,l,e,e1,ds,h=>by
  simp only [Gy] at h
  split at h
  ·rename_i a l
   split at h
   ·rename_i e2 d1 hx
    split at h
    ·rename_i e3 d2 hy
     cases h
     obtain ⟨h1,h2,h3⟩:=X8 (H':=H') (ρ:=ρ) hx
     obtain ⟨q1,q2,q3⟩:=yj (H':=H') (ρ:=ρ) hy
     refine ⟨h1.trans q1,fun h=>q2 (h2 h),fun rest=>?_⟩
     obtain ⟨b1,k1,k2⟩:=h3 (d2++rest)
     obtain ⟨b2,k3,k4⟩:=q3 rest
     refine ⟨b1::b2,by simp only [List.append_assoc,instL,k1,k3],fun {w F μ K F' bC K' vs} hr hv=>?_⟩
     simp only [dU] at hv ⊢
     obtain ⟨v,r,rfl,a1,a2⟩:=hv.cons_inv
     exact .cons (k2 (hr.of q1) a1) (k4 hr a2)
    ·cases h
   ·cases h
  ·cases h
end
theorem aed {H H':List (Nat×aY)} {ρ:Nat→Nat} {b:Bp} {x:Option aY} {e e1:Xs} {ds:List cI} (h:aeb H b x e=some (e1,ds)):e.le e1∧(e.inj→e1.inj)∧∃ B,x=some B∧B.WT=true∧∀ rest,∃ B',instB ρ b (ds++rest)=some (B',rest)∧
  B'.WT=true∧(∀ y,fM (some B')=some y→fM (some B)=some y)∧((B'.dw H').fa=true→(B.dw H).fa=true)∧
  ∀ {w F μ K F' bC K' S n o},Reads w F μ K H e1 F' bC K' H' ρ→(∀ x,S x→True)→h_ w F μ K S n o (B.dw H)→h_ w F' bC K' S n o (B'.dw H'):=by
 unfold aeb at h
 split at h
 ·rename_i ps l
  obtain ⟨h1,h2,h3⟩:=yj (H':=H') (ρ:=ρ) h
  refine ⟨h1,h2,_,rfl,rfl,fun rest=>?_⟩
  obtain ⟨bs,k1,k2⟩:=h3 rest
  refine ⟨.box bs,by simp only [instB,k1],rfl,(fun y h=>by cases h),(fun _=>rfl),fun {w F μ K F' bC K' S n o} hr _ hB=>?_⟩
  simp only [aY.dw] at hB ⊢
  obtain ⟨cs,t,q1,q2,q3,q4⟩:=hB
  have:iR w F μ K (dU H l) (cs.toList.take l.length):=by
   refine ⟨by rw [bI] at q3 ⊢;simp;omega,fun i hi=>?_⟩
   have:=q4 i hi
   rw [bI] at hi q3
   have e2:(cs.toList.take l.length).getD i undef=cs.getD i undef:=by
    rw [← jE]
    simp [List.getD,List.getElem?_take,hi]
   rw [e2];exact this
  have h5:=k2 hr this
  have hlen:(dU H' bs).length=l.length:=by
   have:=h5.1
   rw [bI] at q3
   simp at this;omega
  refine ⟨cs,t,q1,q2,by rw [hlen];rw [bI] at q3;exact q3,fun j hj=>?_⟩
  have h6:=h5.2 j hj
  have e2:(cs.toList.take l.length).getD j undef=cs.getD j undef:=by
   rw [← jE]
   simp [List.getD,List.getElem?_take,show j < l.length by omega]
  rw [e2] at h6;exact h6
 ·rename_i t v u v' xs
  split at h
  ·rename_i ht
   subst ht
   have fin:v=v'→some (e,[(⟨.sl u,xs⟩:cI)])=some (e1,ds)→e.le e1∧(e.inj→e1.inj)∧∃ B,some (aY.row u v' xs)=some B∧B.WT=true∧∀ rest,∃ B',instB ρ (.row u v) (ds++rest)=some (B',rest)∧
     B'.WT=true∧(∀ y,fM (some B')=some y→fM (some B)=some y)∧((B'.dw H').fa=true→(B.dw H).fa=true)∧
     ∀ {w F μ K F' bC K' S n o},Reads w F μ K H e1 F' bC K' H' ρ→(∀ x,S x→True)→h_ w F μ K S n o (B.dw H)→h_ w F' bC K' S n o (B'.dw H'):=by
    intro hvv hh
    subst hvv
    cases hh
    refine ⟨.refl _,fun h=>h,_,rfl,rfl,fun rest=>⟨.row u v xs,by simp only [List.cons_append,List.nil_append,instB,if_true],rfl,fun y h=>h,fun h=>h,fun {w F μ K F' bC K' S n o} hr _ hB=>?_⟩⟩
    simp only [aY.dw] at hB ⊢
    obtain ⟨cs,t,S',q1,q2⟩:=hB
    exact ⟨cs,t,S',q1,{ q2 with cell:=fun i j hi hj=>⟨(q2.cell i j hi hj).1.mono (fun _ _=>rfl) hr.fF fun _ _=>rfl,(q2.cell i j hi hj).2⟩ }⟩
   split at h
   ·exact fin rfl h
   ·exact fin rfl h
   ·exact fin rfl h
   ·exact fin rfl h
   ·cases h
  ·cases h
 ·rename_i i u xs
  split at h
  ·rename_i hu
   subst hu
   cases h
   refine ⟨.refl _,fun h=>h,_,rfl,rfl,fun rest=>⟨.dmap u xs,by simp only [List.cons_append,List.nil_append,instB,if_true],rfl,(fun y h=>by cases h),fun h=>h,fun {w F μ K F' bC K' S n o} hr _ hB=>?_⟩⟩
   simp only [aY.dw] at hB ⊢
   obtain ⟨es,clock,h1,h2,h3,h4,h5⟩:=hB
   exact ⟨es,clock,h1,h2,h3,fun i hi=>⟨(h4 i hi).1,((h4 i hi).2.1.up (bC:=bC)).mono (fun _ _=>rfl) hr.fF (fun _ h=>h.elim) (fun _ h=>h) (fun _ h=>h.elim),
    ((h4 i hi).2.2.up (bC:=bC)).mono (fun _ _=>rfl) hr.fF (fun _ h=>h.elim) (fun _ h=>h) (fun _ h=>h.elim)⟩,h5⟩
  ·cases h
 ·rename_i t l
  split at h
  ·rename_i ds tC
   split at h
   ·rename_i x hx
    cases h
    obtain ⟨d1,d2,d3,d4⟩:=n9 tC
    refine ⟨.refl _,fun h=>h,_,rfl,rfl,fun rest=>⟨.box ((dV t x).map .d),by simp only [List.cons_append,List.nil_append,instB,if_true],rfl,(fun y h=>by cases h),fun h=>h,fun {w F μ K F' bC K' S n o} hr _ hB=>?_⟩⟩
    simp only [aY.dw] at hB ⊢
    obtain ⟨cs,ty,h1,h2,h3,h4⟩:=hB
    have e1:dV t x=ds:=eU hx
    rw [bI] at h3
    refine ⟨cs,ty,h1,h2,by rw [bI,e1];simp;omega,fun j hj=>?_⟩
    rw [bI,e1] at hj
    simp only [List.length_map] at hj
    have ko:j < l.length:=by omega
    have h5:=h4 j (by rw [bI];exact ko)
    rw [dH _ _ _ ko] at h5
    have h6:=d4 H j ko h5
    have e2:(dU H' ((dV t x).map .d)).getD j .top=cN ds[j]:=by
     rw [dH _ _ _ (by rw [e1];simpa using hj),e1]
     simp [List.getD,hj,TA.av]
    have e3:(ds.map cN).getD j .top=cN ds[j]:=by simp [List.getD,hj]
    rw [e2]
    rw [e3] at h6
    exact h6.closed (fun h=>vo (d3 _ (List.getElem_mem hj)) h) hr.fF
   ·cases h
  ·cases h
 ·cases h
theorem X9 {H:List (Nat×aY)} {b:Bp} {r:List Bp} {j:Nat} {e:Xs} (hg:b≠.gone):Gz H (b::r) j e=(match dR e.wB j with
  | none=>none
  | some id=>match aeb H b (aR H id) e with
   | some (e1,d1)=>match Gz H r (j+1) e1 with
    | some (e2,d2)=>some (e2,d1++d2)
    | none=>none
   | none=>none):=by
 cases b<;>first | rfl | exact absurd rfl hg
theorem instBs_cons {ρ:Nat→Nat} {b:Bp} {r:List Bp} {j:Nat} {l:List cI} (hg:b≠.gone):instBs ρ (b::r) j l=(match instB ρ b l with
  | some (x,l)=>match instBs ρ r (j+1) l with
   | some (q,l)=>some ((ρ j,x)::q,l)
   | none=>none
  | none=>none):=by
 cases b<;>first | rfl | exact absurd rfl hg
def Qg (H H':List (Nat×aY)) (e1:Xs) (ρ:Nat→Nat) (p:Nat×aY):Prop:=
 ∃ j id B,p.1=ρ j∧dR e1.wB j=some id∧aR H id=some B∧B.WT=true∧p.2.WT=true∧(∀ y,fM (some p.2)=some y→fM (some B)=some y)∧((p.2.dw H').fa=true→(B.dw H).fa=true)∧
  ∀ {w F μ K F' bC K' S n o},Reads w F μ K H e1 F' bC K' H' ρ→h_ w F μ K S n o (B.dw H)→h_ w F' bC K' S n o (p.2.dw H')
theorem wC {H H':List (Nat×aY)} {ρ:Nat→Nat}:∀ {bs:List Bp} {j0:Nat} {e e1:Xs} {ds:List cI},Gz H bs j0 e=some (e1,ds)→e.le e1∧(e.inj→e1.inj)∧(∀ i,i < bs.length→∃ id,dR e1.wB (j0+i)=some id)∧
  ∀ rest,∃ q,instBs ρ bs j0 (ds++rest)=some (q,rest)∧∀ p,p∈q→Qg H H' e1 ρ p∧∃ i,i < bs.length∧p.1=ρ (j0+i)
 | [],j0,e,e1,ds,h=>by
  cases h
  exact ⟨.refl _,fun h=>h,(fun i h=>by cases h),fun rest=>⟨[],rfl,fun p h=>by cases h⟩⟩
 | b::r,j0,e,e1,ds,h=>by
  by_cases hg:b=.gone
  ·subst hg
   simp only [Gz] at h
   split at h
   ·cases h
   ·rename_i id hj
    obtain ⟨k1,k2,k4,k3⟩:=wC (H':=H') (ρ:=ρ) h
    refine ⟨k1,k2,fun i hi=>?_,fun rest=>?_⟩
    ·cases i with
     | zero=>exact ⟨id,k1.wB _ _ hj⟩
     | succ i=>
      have:=k4 i (by simpa using hi)
      rwa [show j0+1+i=j0+(i+1) by omega] at this
    ·obtain ⟨q,p1,p2⟩:=k3 rest
     refine ⟨q,by simp only [instBs,p1],fun p hp=>⟨(p2 p hp).1,?_⟩⟩
     obtain ⟨i,h1,h2⟩:=(p2 p hp).2
     exact ⟨i+1,by simp;omega,by rw [h2];congr 1;omega⟩
  ·rw [X9 hg] at h
   split at h
   ·cases h
   ·rename_i id hj
    split at h
    ·rename_i e2 d1 hb
     split at h
     ·rename_i e3 d2 hr
      cases h
      obtain ⟨h1,h2,B,hB,hBv,h3⟩:=aed (H':=H') (ρ:=ρ) hb
      obtain ⟨k1,k2,k4,k3⟩:=wC (H':=H') (ρ:=ρ) hr
      refine ⟨h1.trans k1,fun h=>k2 (h2 h),fun i hi=>?_,fun rest=>?_⟩
      ·cases i with
       | zero=>exact ⟨id,(h1.trans k1).wB _ _ hj⟩
       | succ i=>
        have:=k4 i (by simpa using hi)
        rwa [show j0+1+i=j0+(i+1) by omega] at this
      ·obtain ⟨B',q1,qv,q2,q3,q4⟩:=h3 (d2++rest)
       obtain ⟨q,p1,p3⟩:=k3 rest
       refine ⟨(ρ j0,B')::q,?_,fun p hp=>?_⟩
       ·rw [instBs_cons hg,List.append_assoc,q1]
        simp only [p1]
       ·rcases List.mem_cons.1 hp with e | e
        ·rw [e]
         exact ⟨⟨j0,id,B,rfl,(h1.trans k1).wB _ _ hj,hB,hBv,qv,q2,q3,fun {w F μ K F' bC K' S n o} hr=>q4 (hr.of k1) (fun _ _=>trivial)⟩,0,by simp,rfl⟩
        ·refine ⟨(p3 p e).1,?_⟩
         obtain ⟨i,h1,h2⟩:=(p3 p e).2
         exact ⟨i+1,by simp;omega,by rw [h2];congr 1;omega⟩
     ·cases h
    ·cases h
end Go.Proofs.YtljfmaaadnoggaaGreatDoor.cX
