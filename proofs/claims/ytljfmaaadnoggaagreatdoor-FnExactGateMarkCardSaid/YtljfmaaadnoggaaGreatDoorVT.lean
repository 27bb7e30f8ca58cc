/- A region in the text's order. No condition. -/
import Derived.Test.YtljfmaaadnoggaaGreatDoorVS
import Derived.TacticsIn
import Derived.OrdersIn
namespace Go.Proofs.YtljfmaaadnoggaaGreatDoor.cU
open Go Go.RowKit
variable {w w' vP:World} {F F' Am O O' ux:Nat→Prop} {μ bB jV:Nat→Nat} {K K' DQ:Nat→Prop} {ft b7:Nat→Nat→Prop} {P:Program} {R:Type}
def Wr (r:Option Nat):Fence:={ Fence.wide with round:=r }
theorem afs:Wr none=Fence.wide:=rfl
theorem adw {r:Option Nat} {m m':Machine}:StepsIn (Machine.fenced P (Wr r)) P m m'↔Steps P m m':=stepsIn_wide
theorem aft {r:Option Nat} (n:Nat):(Wr r).room n:=room_wide n
theorem Vh {r:Option Nat} {n:Nat} {f:FuncId} {args:Array Value} {R:Ending→World→Prop} (h:Calls P f args w R):CallsIn (Wr r) n P f args w R:=
 ⟨trivial,fun cs _=>(callsIn_wide (n:=n).2 h).2 cs (room_wide _)⟩
theorem XS {r:Option Nat} {n:Nat} {row:String} {args:Array Value} {R:Value→World→Prop} (h:Rows P row args w R):RowsIn (Wr r) n P row args w R:=
 fun c cs _=>let ⟨v,w',q,s⟩:=h c cs;⟨v,w',q,stepsIn_wide.2 s⟩
theorem Tu {r:Option Nat} {o:Oper} {a:Act} {K:Act→World→Prop} {Q:Exit→Act→World→Prop} (hd:∀ c,o.op≠.defer c) (h:o.wp P a w K Q):o.wpIn (Wr r) 0 P a w K Q:=by
 refine ⟨fun f _=>trivial,?_⟩
 rw [Oper.semAt_eq _ _ _ hd]
 unfold Oper.wp at h
 generalize (execOp a.eval o).run P w=x at h
 have no:(Wr r).depth.isSome=true→1≤0:=fun h=>by cases h
 cases x with
 | ok x w'=>
  cases x<;>simp only [Oper.upon,Oper.uponIn] at h ⊢ <;>
   first
    | exact h
    | exact ⟨no,Vh h⟩
    | exact ⟨no,XS h⟩
    | exact h.elim
 | halt x w'=>cases x<;>simp only [Oper.upon,Oper.uponIn] at h ⊢<;>exact h
mutual
def TA.pz (i:Nat) (x:cE):TA→TA
 | .ow id=>match Nat.beq id i with
  | true=>.d x
  | false=>.ow id
 | .agg cs=>.agg (Ht i x cs)
 | .n9 cs=>.n9 (Ht i x cs)
 | .nX t a=>.nX t (a.pz i x)
 | .fn f xs ys=>.fn f (Ht i x xs) (Ht i x ys)
 | a=>a
def Ht (i:Nat) (x:cE):List TA→List TA
 | []=>[]
 | a::r=>a.pz i x::Ht i x r
end
def aW.pz (i:Nat) (x:cE):aW→aW
 | .box l=>.box (Ht i x l)
 | b=>b
def Vi (s:bK) (i:Nat):bK:=match aR s.H i with
 | some (.row t _ xs)=>⟨s.nt,s.N,s.tm.map fun p=>(p.1,p.2.pz i ⟨.sl t,xs⟩),cz (s.H.map fun p=>(p.1,p.2.pz i ⟨.sl t,xs⟩)) [(i,none)]⟩
 | _=>s
def D_ (s:bK):List Nat→bK
 | []=>s
 | i::r=>D_ (Vi s i) r
theorem Ea (i:Nat) (x:cE):∀ l:List TA,Ht i x l=l.map (TA.pz i x)
 | []=>by simp [Ht]
 | a::r=>by simp [Ht,Ea i x r]
theorem NO (i:Nat) (x:cE) (t:Nat):∀ l:List (Nat×TA),look (l.map fun p=>(p.1,p.2.pz i x)) t=(look l t).pz i x
 | []=>by simp only [List.map_nil,look,TA.pz]
 | p::r=>by
  simp only [List.map_cons,look]
  cases Nat.beq t p.1 with
  | true=>rfl
  | false=>exact NO i x t r
theorem Kz (i:Nat) (x:cE) (t:Nat):∀ l:List (Nat×aW),aR (l.map fun p=>(p.1,p.2.pz i x)) t=(aR l t).map (aW.pz i x)
 | []=>rfl
 | p::r=>by
  simp only [List.map_cons,aR]
  cases Nat.beq t p.1 with
  | true=>rfl
  | false=>exact Kz i x t r
theorem Wk (i:Nat) (x:cE) (b:Option aW):fj (b.map (aW.pz i x))=fj b:=by
 cases b with
 | none=>rfl
 | some b=>cases b<;>rfl
mutual
theorem Ru {H H':List (Nat×aW)} {i:Nat} {t:Ty} {v:RV} {xs:List t.dn} (hi:aR H i=some (.row t v xs)) (rO:∀ id,fj (aR H' id)=fj (aR H id)) (hF:∀ b,F b→F' b)
  (hz:∀ u,VR w F μ K (dd v.b i xs.length (eR t)) u→VR w F' μ K (cK ⟨.sl t,xs⟩) u):∀ (a:TA) {u:Value},VR w F μ K (a.av H) u→VR w F' μ K ((a.pz i ⟨.sl t,xs⟩).av H') u
 | .ow id,u,h=>by
  simp only [TA.pz]
  cases e:Nat.beq id i with
  | true=>
   have:=Nat.eq_of_beq_eq_true e
   subst this
   simp only [TA.av,hi,fj] at h
   simp only [TA.av]
   exact hz u h
  | false=>
   simp only [TA.av,rO id]
   simp only [TA.av] at h
   exact h.mono (fun _ _=>rfl) hF (fun _ _=>rfl) (fun _ h=>h) fun _ _=>rfl
 | .agg cs,u,h=>by
  simp only [TA.av] at h
  simp only [TA.pz,TA.av]
  obtain ⟨vs,rfl,AM⟩:=h.fh
  exact .pY (I6 hi rO hF hz cs AM)
 | .n9 cs,u,h=>by
  simp only [TA.av] at h
  simp only [TA.pz,TA.av]
  obtain ⟨vs,rfl,AM⟩:=h.IB
  exact .Le (I6 hi rO hF hz cs AM)
 | .nX q a,u,h=>by
  simp only [TA.av] at h
  simp only [TA.pz,TA.av]
  obtain ⟨v',rfl,hv⟩:=h.Bf
  exact .nX _ _ _ (Ru hi rO hF hz a hv)
 | .fn f as bs,u,h=>by
  simp only [TA.av] at h
  simp only [TA.pz,TA.av]
  obtain ⟨vs,us,rfl,h1,h2⟩:=h.J7
  exact .Zg (I6 hi rO hF hz as h1) (I6 hi rO hF hz bs h2)
 | .top,u,h=>by simp only [TA.pz,TA.av];exact .top _
 | .lit q,u,h=>by simp only [TA.pz,TA.av] at h ⊢;exact h.mono (fun _ _=>rfl) hF (fun _ _=>rfl) (fun _ h=>h) fun _ _=>rfl
 | .d q,u,h=>by simp only [TA.pz,TA.av] at h ⊢;exact h.mono (fun _ _=>rfl) hF (fun _ _=>rfl) (fun _ h=>h) fun _ _=>rfl
 | .eQ,u,h=>by simp only [TA.pz,TA.av] at h ⊢;exact h.mono (fun _ _=>rfl) hF (fun _ _=>rfl) (fun _ h=>h) fun _ _=>rfl
 | .fp q y off,u,h=>by simp only [TA.pz,TA.av] at h ⊢;exact h.mono (fun _ _=>rfl) hF (fun _ _=>rfl) (fun _ h=>h) fun _ _=>rfl
 | .bs id n e,u,h=>by simp only [TA.pz,TA.av] at h ⊢;exact h.mono (fun _ _=>rfl) hF (fun _ _=>rfl) (fun _ h=>h) fun _ _=>rfl
 | .bp id off,u,h=>by simp only [TA.pz,TA.av] at h ⊢;exact h.mono (fun _ _=>rfl) hF (fun _ _=>rfl) (fun _ h=>h) fun _ _=>rfl
 | .mp id,u,h=>by simp only [TA.pz,TA.av] at h ⊢;exact h.mono (fun _ _=>rfl) hF (fun _ _=>rfl) (fun _ h=>h) fun _ _=>rfl
 | .rp id q off,u,h=>by
  simp only [TA.pz,TA.av,rO id] at h ⊢
  exact h.mono (fun _ _=>rfl) hF (fun _ _=>rfl) (fun _ h=>h) fun _ _=>rfl
theorem I6 {H H':List (Nat×aW)} {i:Nat} {t:Ty} {v:RV} {xs:List t.dn} (hi:aR H i=some (.row t v xs)) (rO:∀ id,fj (aR H' id)=fj (aR H id)) (hF:∀ b,F b→F' b)
  (hz:∀ u,VR w F μ K (dd v.b i xs.length (eR t)) u→VR w F' μ K (cK ⟨.sl t,xs⟩) u):∀ (l:List TA) {us:List Value},hP w F μ K (dJ H l) us→hP w F' μ K (dJ H' (Ht i ⟨.sl t,xs⟩ l)) us
 | [],us,h=>by
  simp only [dJ] at h
  simp only [Ht,dJ]
  rw [h.gY];exact .nil
 | a::r,us,h=>by
  simp only [dJ] at h
  simp only [Ht,dJ]
  obtain ⟨u,q,rfl,h1,h2⟩:=h.cons_inv
  exact .cons (Ru hi rO hF hz a h1) (I6 hi rO hF hz r h2)
end
mutual
theorem Vj {H H':List (Nat×aW)} {N i:Nat} {x:cE} (rO:∀ id,fj (aR H' id)=fj (aR H id)):∀ (a:TA),a.wf H N→(a.pz i x).wf H' N
 | .ow id,h=>by
  simp only [TA.pz]
  cases Nat.beq id i with
  | true=>simp only [TA.wf]
  | false=>simp only [TA.wf] at h ⊢;exact h
 | .agg cs,h=>by simp only [TA.pz,TA.wf] at h ⊢;exact ED rO cs h
 | .n9 cs,h=>by simp only [TA.pz,TA.wf] at h ⊢;exact ED rO cs h
 | .nX q a,h=>by simp only [TA.pz,TA.wf] at h ⊢;exact Vj rO a h
 | .fn f as bs,h=>by simp only [TA.pz,TA.wf] at h ⊢;exact ⟨ED rO as h.1,ED rO bs h.2⟩
 | .rp id q off,h=>by simp only [TA.pz,TA.wf,rO id] at h ⊢;exact h
 | .top,h=>by simp only [TA.pz,TA.wf]
 | .lit q,h=>by simp only [TA.pz,TA.wf]
 | .d q,h=>by simp only [TA.pz,TA.wf]
 | .eQ,h=>by simp only [TA.pz,TA.wf]
 | .fp q y off,h=>by simp only [TA.pz,TA.wf]
 | .bs id n e,h=>by simp only [TA.pz,TA.wf]
 | .bp id off,h=>by simp only [TA.pz,TA.wf]
 | .mp id,h=>by simp only [TA.pz,TA.wf]
theorem ED {H H':List (Nat×aW)} {N i:Nat} {x:cE} (rO:∀ id,fj (aR H' id)=fj (aR H id)):∀ (l:List TA),gQ H N l→gQ H' N (Ht i x l)
 | [],h=>by simp only [Ht,gQ]
 | a::r,h=>by simp only [Ht,gQ] at h ⊢;exact ⟨Vj rO a h.1,ED rO r h.2⟩
end
theorem Tv {H H':List (Nat×aW)} {i:Nat} {x:cE} (b:aW):((b.pz i x).di H').eI=(b.di H).eI:=by
 cases b with
 | c5 t v xs i' os=>simp only [aW.pz,aW.di];cases v.b<;>rfl
 | row t v xs=>rfl
 | _=>rfl
theorem abB {s:bK} {a:Act} (i:Nat) (ho:s.ok) (hs:SR w F O μ (below s.N) s.st ft a):(Vi s i).ok∧(Vi s i).N=s.N∧(Vi s i).nt=s.nt∧
  ∃ F' O',SR w F' O' μ (below (Vi s i).N) (Vi s i).st ft a∧Fr w F O μ (below s.N) w F' O' μ:=by
 unfold Vi
 split
 ·rename_i t v xs hi
  let F':Nat→Prop:=fun b=>F b∨(s.st.H.live i∧ft i b)
  let O':Nat→Prop:=fun b=>O b∧¬ (s.st.H.live i∧ft i b)
  generalize hH':cz (s.H.map fun p=>(p.1,p.2.pz i ⟨.sl t,xs⟩)) [(i,none)]=H'
  have hl:∀ id,id≠i→aR H' id=(aR s.H id).map (aW.pz i ⟨.sl t,xs⟩):=fun id bY=>by
   rw [← hH']
   simp only [cz,aR,ca bY,Kz]
  have hli:∃ x,aR H' i=some (.bY x):=by
   rw [← hH']
   simp only [cz,aR,Nat.beq_refl]
   exact ⟨_,rfl⟩
  have rO:∀ id,fj (aR H' id)=fj (aR s.H id):=fun id=>by
   by_cases e:id=i
   ·subst e
    rw [← hH']
    simp only [cz,aR,Nat.beq_refl,Kz]
    exact Wk _ _ _
   ·rw [hl id e,Wk]
  have hF:∀ b,F b→F' b:=fun b h=>.inl h
  have hz:∀ u,VR w F μ (below s.N) (dd v.b i xs.length (eR t)) u→VR w F' μ (below s.N) (cK ⟨.sl t,xs⟩) u:=fun u hu=>Ko hs hi hu hF (fun ic b hb=>.inr ⟨ic,hb⟩)
  refine ⟨⟨fun q=>?_,fun id l QM=>?_⟩,rfl,rfl,F',O',⟨?_,hs.nt,fun q=>?_,hs.df.sub (fun b hb=>hb.1) fun b hb=>hb.imp id fun ⟨h1,h2⟩=>hs.hr.own i h1 b h2⟩,⟨rfl,rfl,rfl,Nat.le_refl _,fun _ _=>rfl,hF,fun _ _=>rfl,fun _ _ _=>rfl,fun b hb=>.inl hb.1,fun b hb=>?_⟩⟩
  ·show (look (s.tm.map fun p=>(p.1,p.2.pz i ⟨.sl t,xs⟩)) q).wf H' s.N
   rw [NO]
   exact Vj rO _ (ho.tm q)
  ·have QM:aR H' id=some l:=QM
   by_cases e:id=i
   ·obtain ⟨x,hx⟩:=hli
    rw [e,hx] at QM;cases QM;simp only [aW.refs,gQ]
   ·rw [hl id e] at QM
    cases hb:aR s.H id with
    | none=>rw [hb] at QM;cases QM
    | some b=>
     rw [hb] at QM
     simp only [Option.map_some,Option.some.injEq] at QM
     subst QM
     have hw:=ho.H id b hb
     cases b with
     | box l0=>exact ED rO l0 hw
     | c5 t' v' Zz i' os=>exact (g7 (fun b9 _=>rO b9) (Nat.le_refl _) _ hw).2
     | _=>simp only [aW.pz,aW.refs,gQ]
  ·have hr:=hs.hr
   have lv:∀ id,Hp.live (vS H') id→id≠i∧s.st.H.live id:=by
    rintro id ⟨b',cd,hlb⟩
    obtain ⟨c,hc,hv,rfl⟩:=gP cd
    have o8:id≠i:=fun e=>by
     obtain ⟨x,hx⟩:=hli
     rw [e,hx] at hc;cases hc;cases hv
    rw [hl id o8] at hc
    cases hb:aR s.H id with
    | none=>rw [hb] at hc;cases hc
    | some b=>
     rw [hb] at hc
     simp only [Option.map_some,Option.some.injEq] at hc
     subst hc
     refine ⟨o8,_,dz hb (by cases b<;>first | rfl | (cases hv)),?_⟩
     rw [Tv] at hlb;exact hlb
   show HR w F' O' μ (below s.N) (vS H') ft
   refine { lt:=hr.lt,known:=fun id b' cd=>?_,di:=fun id b' cd hlb=>?_,self:=fun id h=>hr.self id (lv id h).2,own:=fun id h x hx=>⟨hr.own id (lv id h).2 x hx,fun ⟨h1,h2⟩=>(lv id h).1 (hr.dj id i (lv id h).2 h1 x hx h2)⟩,dj:=fun id b9 h h'=>hr.dj id b9 (lv id h).2 (lv b9 h').2,xW:=fun b hb hf=>?_,wf:=fun b hb=>?_,p0:=fun b hb=>hr.p0 b hb.1,pos:=hr.pos.mono (Nat.le_refl _) (fun _ h=>.inl h) fun _ _=>rfl }
   ·obtain ⟨c,hc,hv,rfl⟩:=gP cd
    have o8:id≠i:=fun e=>by
     obtain ⟨x,hx⟩:=hli
     rw [e,hx] at hc;cases hc;cases hv
    rw [hl id o8] at hc
    cases hb:aR s.H id with
    | none=>rw [hb] at hc;cases hc
    | some b=>
     rw [hb] at hc
     simp only [Option.map_some,Option.some.injEq] at hc
     subst hc
     exact hr.known id _ (dz hb (by cases b<;>first | rfl | (cases hv)))
   ·obtain ⟨c,hc,hv,rfl⟩:=gP cd
    have o8:id≠i:=fun e=>by
     obtain ⟨x,hx⟩:=hli
     rw [e,hx] at hc;cases hc;cases hv
    rw [hl id o8] at hc
    cases hb:aR s.H id with
    | none=>rw [hb] at hc;cases hc
    | some b=>
     rw [hb] at hc
     simp only [Option.map_some,Option.some.injEq] at hc
     subst hc
     obtain ⟨o,ho1,hB⟩:=hr.di id _ (dz hb (by cases b<;>first | rfl | (cases hv))) (by rw [Tv] at hlb;exact hlb)
     refine ⟨o,ho1,?_⟩
     have up:∀ {B:ju},gO w F μ (below s.N) (ft id) (μ id) o B→gO w F' μ (below s.N) (ft id) (μ id) o B:=fun hB=>hB.mono (fun _ _=>rfl) hF (fun _ _=>rfl) (fun _ h=>h) (fun _ _=>rfl) (fun _ _ _=>rfl)
     cases b with
     | box l0=>
      obtain ⟨cs,q,m1,m2,m3,m4⟩:=hB
      refine ⟨cs,q,m1,m2,?_,fun k hk=>?_⟩
      ·rw [bE] at m3 ⊢;rw [Ea];simpa using m3
      ·rw [bE,Ea,List.length_map] at hk
       have m5:=m4 k (by rw [bE];exact hk)
       rw [dy _ _ _ hk] at m5
       rw [dy _ _ _ (by rw [Ea];simpa using hk),Ea]
       have e5:(l0.map (TA.pz i ⟨.sl t,xs⟩)).getD k .top=(l0.getD k .top).pz i ⟨.sl t,xs⟩:=by simp [List.getD,hk]
       rw [e5]
       exact Ru hi rO hF hz _ m5
     | row t' v' Zz=>exact up hB
     | c5 t' v' Zz i' os=>
      have e6:(aW.c5 t' v' Zz i' os).di H'=(aW.c5 t' v' Zz i' os).di s.H:=o_ (N:=s.N) (fun b9 _=>rO b9) (ho.H id _ hb)
      rw [show aW.pz i ⟨.sl t,xs⟩ (aW.c5 t' v' Zz i' os)=aW.c5 t' v' Zz i' os from rfl,e6]
      exact up hB
     | bY x=>cases hv
     | dmap i' l'=>exact up hB
     | SS t' l'=>exact up hB
   ·rcases hf with h | h
    ·exact hr.xW b hb.1 h
    ·exact hb.2 h
   ·rcases hb with h | ⟨h1,h2⟩
    ·exact hr.wf b h
    ·exact hr.p0 b (hr.own i h1 b h2)
  ·show VR w F' μ _ ((look (s.tm.map fun p=>(p.1,p.2.pz i ⟨.sl t,xs⟩)) q).av H') _
   rw [NO]
   exact Ru hi rO hF hz _ (hs.tm q)
  ·rcases hb with h | ⟨h1,h2⟩
   ·exact .inl h
   ·exact .inr (.inr (hs.hr.own i h1 b h2))
 ·exact ⟨ho,rfl,rfl,F,O,hs,Fr.refl _ _ _ _ _⟩
theorem Rv {a:Act}:∀ (L:List Nat) {s:bK} {F O:Nat→Prop},s.ok→SR w F O μ (below s.N) s.st ft a→(D_ s L).ok∧(D_ s L).N=s.N∧(D_ s L).nt=s.nt∧
  ∃ F' O',SR w F' O' μ (below (D_ s L).N) (D_ s L).st ft a∧Fr w F O μ (below s.N) w F' O' μ
 | [],s,F,O,ho,hs=>⟨ho,rfl,rfl,F,O,hs,Fr.refl _ _ _ _ _⟩
 | i::r,s,F,O,ho,hs=>by
  obtain ⟨h1,h2,h3,F1,O1,h4,h5⟩:=abB i ho hs
  obtain ⟨k1,k2,k3,F2,O2,k4,k5⟩:=Rv r h1 h4
  exact ⟨k1,k2.trans h2,k3.trans h3,F2,O2,k4,h5.trans (by rw [← h2];exact k5)⟩
def Tw:TA→List Nat
 | .ow id=>[id]
 | .agg cs=>cs.flatMap fun a=>match a with
  | .ow id=>[id]
  | _=>[]
 | _=>[]
def adx:List CT→FuncId→bK→List TA→List Nat
 | [],_,_,_=>[]
 | c::r,f,s,as=>match Nat.beq c.f f&&fits c s as with
  | true=>match c.outs.all fun a=>a.res.flat&&a.cW.all Bp.flat with
   | true=>[]
   | false=>match D7 s.H c.args as ⟨[],[]⟩ with
    | some (e1,_)=>match D8 s.H c.cW 0 e1 with
     | some (e2,_)=>e2.fz
     | none=>[]
    | none=>[]
  | false=>adx r f s as
def KA (E:Env) (bH:List CT) (o:Oper) (s:bK):List Nat:=match o.op with
 | .call ⟨.value x,⟨args⟩,_⟩=>match s.val x with
  | .fn (.func f) first cap=>adx (Kx E o.dst bH) f s ((first++args.map s.val)++cap)
  | _=>[]
 | .call ⟨.invoke x name,⟨args⟩,_⟩=>match s.val x with
  | .nX t b=>match NI E.mt t name with
   | some f=>adx (Kx E o.dst bH) f s (b::args.map s.val)
   | none=>[]
  | _=>[]
 | .store _ x y=>match s.val x with
  | .rp _ _ _=>match rpD s.H (s.val x) with
   | true=>[]
   | false=>Tw (s.val y)
  | _=>[]
 | .buildSlice t _ ⟨ps⟩=>match aby E o.dst with
  | true=>[]
  | false=>match acg E t with
   | some _=>ps.flatMap fun p=>Tw (s.val p.2)
   | none=>[]
 | .box _ x=>match o.dst with
  | some d=>match wi E.fz d with
   | true=>Tw (s.val x)
   | false=>[]
  | none=>[]
 | .slice _ x _ _ _=>Tw (s.val x)
 | _=>[]
def ZZ (H:List (Nat×aW)) (id:Nat):Bool:=match aR H id with
 | some (.c5 _ _ _ _ _)=>true
 | _=>false
def rpH (H:List (Nat×aW)):TA→List Nat
 | .rp id _ _=>match ZZ H id with
  | true=>[id]
  | false=>[]
 | _=>[]
def OX (o:Oper) (s:bK):List Nat:=match o.op with
 | .load _ x=>rpH s.H (s.val x)
 | .store _ x _=>rpH s.H (s.val x)
 | .call ⟨_,⟨args⟩,_⟩=>args.flatMap fun x=>(Tw (s.val x)).filter (ZZ s.H)
 | _=>[]
def bK.Eb (s:bK) (t:Nat) (b:Bool):bK:={ s with tm:=(t,.d ⟨.bool,b⟩)::s.tm }
theorem I7 {s:bK} {t:Nat} {b:Bool} (ho:s.ok):(s.Eb t b).ok:=by
 refine ⟨fun u=>?_,ho.H⟩
 simp only [bK.Eb,look]
 cases e:Nat.beq u t with
 | true=>simp only [TA.wf]
 | false=>exact ho.tm u
theorem L7 {s:bK} {t:Nat} {b:Bool} {a:Act} (hs:SR w F O μ K s.st ft a) (h:look s.tm t=.d ⟨.bool,b⟩):SR w F O μ K (s.Eb t b).st ft a:=by
 refine ⟨hs.hr,hs.nt,fun u=>?_,hs.df⟩
 have:=hs.tm u
 simp only [bK.st,bK.Eb,look] at this ⊢
 cases e:Nat.beq u t with
 | true=>rw [Nat.eq_of_beq_eq_true e,h] at this;rw [Nat.eq_of_beq_eq_true e];exact this
 | false=>exact this
theorem Hu {ops:Array Oper} {s:bK} {o:Oper} {t:Nat} {b c:Bool} (h:NN ops s o=some (.on t b c)):look s.tm t=.d ⟨.bool,b⟩:=by
 unfold NN at h
 split at h
 ·cases h
 ·split at h
  ·split at h
   ·rename_i b' hb
    cases h
    exact hb
   ·cases h
   ·cases h
  ·cases h
def NP (E:Env) (bH:List CT) (o:Oper) (s:bK) (b:Bool) (κ:bK→Option R) (zx:TA→bK→Option R):Option R:=
 match b with
 | true=>match D_ (rK s (OX o s)) (KA E bH o (rK s (OX o s))) with
  | ⟨nt,N,tm,H⟩=>evT E bH o ⟨nt,N,tm,H⟩ (fun r=>κ ((bK.next ⟨nt,N,tm,H⟩ r).put o.dst r.v)) (fun r=>zx r.v (bK.next ⟨nt,N,tm,H⟩ r))
 | false=>κ (s.put o.dst (.lit undef))
def I8 (E:Env) (bH:List CT) (ops:Array Oper):List Oper→bK→(bK→Option R)→(TA→bK→Option R)→Option R
 | [],s,κ,_=>κ s
 | o::rest,s,κ,zx=>match nU s o.dst with
  | true=>match NN ops s o with
   | some .yes=>NP E bH o s true (fun s=>I8 E bH ops rest s κ zx) zx
   | some .no=>NP E bH o s false (fun s=>I8 E bH ops rest s κ zx) zx
   | some (.on t b c)=>cond b (NP E bH o (s.Eb t true) c (fun s=>I8 E bH ops rest s κ zx) zx) (NP E bH o (s.Eb t false) (!c) (fun s=>I8 E bH ops rest s κ zx) zx)
   | none=>none
  | false=>none
def OY (n0:Nat×Nat) (s:bK) (a:Act):Prop:=s.nt=n0.1∧∀ b,xK b∈a.defers→n0.2≤b
theorem OY.put {n0:Nat×Nat} {s s':bK} {a:Act} {d d':Option Nat} {v:TA} {u:Value} (h:OY n0 s a) (e:s'.nt=s.nt):OY n0 (s'.put d v) (a.put d' u):=by
 cases d<;>cases d'<;>exact ⟨e.trans h.1,h.2⟩
theorem OY.to {n0:Nat×Nat} {s s':bK} {a:Act} (h:OY n0 s a) (e:s'.nt=s.nt):OY n0 s' a:=⟨e.trans h.1,h.2⟩
structure x5 (w:World) (F O:Nat→Prop) (μ:Nat→Nat) (m0:Nat) (n0:Nat×Nat) (s':bK) (a':Act) (w':World) (F' O':Nat→Prop) (bB:Nat→Nat) (b7:Nat→Nat→Prop):Prop where
 ok:s'.ok
 le:m0≤s'.N
 nt:OY n0 s' a'
 sr:SR w' F' O' bB (below s'.N) s'.st b7 a'
 fr:Fr w F O μ (below m0) w' F' O' bB
theorem x5.trans {m0:Nat} {n0:Nat×Nat} {s':bK} {a':Act} (hf:Fr w F O μ (below m0) w' F' O' bB) (h:x5 w' F' O' bB m0 n0 s' a' vP Am ux jV b7):x5 w F O μ m0 n0 s' a' vP Am ux jV b7:=
 ⟨h.ok,h.le,h.nt,h.sr,hf.trans h.fr⟩
theorem x5.refl {m0:Nat} {n0:Nat×Nat} {s:bK} {a:Act} (ho:s.ok) (hm:m0≤s.N) (hn:OY n0 s a) (hs:SR w F O μ (below s.N) s.st ft a):x5 w F O μ m0 n0 s a w F O μ ft:=⟨ho,hm,hn,hs,Fr.refl _ _ _ _ _⟩
theorem Vk {E:Env} {bH:List CT} {o:Oper} {s:bK} {κ zx:cC→Option R} {z:R} (h:evT E bH o s κ zx=some z):∀ c,o.op≠.defer c:=fun c hc=>by
 simp [evT,ev0,hc] at h
theorem XT {E:Env} {bH:List CT} {o:Oper} {s:bK} {κ:bK→Option R} {zx:TA→bK→Option R} {z:R} {m0:Nat} {n0:Nat×Nat} {a:Act} {Kn:Act→World→Prop} {Q:Exit→Act→World→Prop} (hE:vT E bH)
  (h:evT E bH o s (fun r=>κ ((s.next r).put o.dst r.v)) (fun r=>zx r.v (s.next r))=some z) (hd:nU s o.dst=true) (ho:s.ok) (hm:m0≤s.N) (hn:OY n0 s a) (hs:SR w F O μ (below s.N) s.st ft a)
  (hk:∀ s' a' w' F' O' bB b7,κ s'=some z→x5 w F O μ m0 n0 s' a' w' F' O' bB b7→Kn a' w')
  (hp:∀ v u s' a' w' F' O' bB b7,zx v s'=some z→v.wf s'.H s'.N→VR w' F' bB (below s'.N) (v.av s'.H) u→x5 w F O μ m0 n0 s' a' w' F' O' bB b7→Q (.panic [{ v:=u,recovered:=false }]) a' w'):o.wp E.P a w Kn Q:=by
 rcases Vg hE ho h with ⟨r,h1,h2,h3⟩ | ⟨r,h1,h2,h3⟩
 ·refine V0 h1 hs fun v w' F' O' bB b7 k1 k2 k3=>?_
  have Ig:=Q7 hs ho h2 k2 k3
  have Jl:=IS ho h2
  have hN:((s.next r).put o.dst r.v).N=s.N+r.k:=by cases o.dst<;>rfl
  have Nh:nU (s.next r) o.dst=true:=by cases OZ:o.dst<;>rw [OZ] at hd<;>exact hd
  exact hk _ _ w' F' O' bB b7 h3 ⟨zw Jl h2.v,by rw [hN];omega,hn.put rfl,by rw [hN];exact Hh Ig Nh k1,k3.Of fun id (bY:id < m0)=>(show id < s.N by omega)⟩
 ·refine Zt h1 hs fun v w' F' O' bB b7 k1 k2 k3=>?_
  have Ig:=Q7 hs ho h2 k2 k3
  have Jl:=IS ho h2
  exact hp r.v v (s.next r) a w' F' O' bB b7 h3 h2.v k1 ⟨Jl,by show m0≤s.N+r.k;omega,hn.to rfl,Ig,k3.Of fun id (bY:id < m0)=>(show id < s.N by omega)⟩
theorem Z0 {E:Env} {bH:List CT} {o:Oper} {s:bK} {b:Bool} {κ:bK→Option R} {zx:TA→bK→Option R} {z:R} {m0:Nat} {n0:Nat×Nat} {a:Act} {ops:Array Oper} {ro:Option Nat} {Kn:Act→World→Prop} {Q:Exit→Act→World→Prop} (hE:vT E bH) (h:NP E bH o s b κ zx=some z)
  (hd:nU s o.dst=true) (hw:Region.wanted o (yielded ops a.tmps)=b) (ho:s.ok) (hm:m0≤s.N) (hn:OY n0 s a) (hs:SR w F O μ (below s.N) s.st ft a)
  (hk:∀ s' a' w' F' O' bB b7,κ s'=some z→x5 w F O μ m0 n0 s' a' w' F' O' bB b7→Kn a' w')
  (hp:∀ v u s' a' w' F' O' bB b7,zx v s'=some z→v.wf s'.H s'.N→VR w' F' bB (below s'.N) (v.av s'.H) u→x5 w F O μ m0 n0 s' a' w' F' O' bB b7→Q (.panic [{ v:=u,recovered:=false }]) a' w'):
  if Region.wanted o (yielded ops a.tmps) then o.wpIn (Wr ro) 0 E.P a w Kn Q else (∀ f,o.about E.P w a.eval=some f→(Wr ro).fn f)∧Kn (a.put o.dst undef) w:=by
 cases b with
 | false=>
  rw [hw]
  simp only [NP] at h
  simp only [Bool.false_eq_true,if_false]
  have hN:(s.put o.dst (.lit undef)).N=s.N:=by cases o.dst<;>rfl
  refine ⟨fun _ _=>trivial,?_⟩
  exact hk _ _ w F O μ ft h ⟨zw ho (by simp only [TA.wf]),by rw [hN];exact hm,hn.put rfl,by rw [hN];exact Hh hs hd (by simp only [TA.av];exact .lit _),Fr.refl _ _ _ _ _⟩
 | true=>
  rw [hw]
  obtain ⟨y1,y2,y3,_,V2,y4⟩:=IY (OX o s) ho hs
  have h:evT E bH o (D_ (rK s (OX o s)) (KA E bH o (rK s (OX o s)))) (fun r=>κ ((bK.next (D_ (rK s (OX o s)) (KA E bH o (rK s (OX o s)))) r).put o.dst r.v)) (fun r=>zx r.v (bK.next (D_ (rK s (OX o s)) (KA E bH o (rK s (OX o s)))) r))=some z:=h
  generalize rK s (OX o s)=s0 at h y1 y2 y3 y4
  rw [← y2] at y4
  obtain ⟨z1,z2,z3,F1,O1,z4,z5⟩:=Rv (KA E bH o s0) y1 y4
  rw [y2] at z2 z5
  rw [y3] at z3
  have hd:nU (D_ s0 (KA E bH o s0)) o.dst=true:=by
   cases OZ:o.dst with
   | none=>rfl
   | some t=>rw [OZ] at hd;simp only [nU,z3] at hd ⊢;exact hd
  have Xy:m0≤(D_ s0 (KA E bH o s0)).N:=by rw [z2];exact hm
  simp only [if_true]
  have z5':=z5.Of (K':=below m0) fun id (bY:id < m0)=>(show id < s.N by omega)
  exact Tu (Vk h) (XT hE h hd z1 Xy (hn.to z3) z4 (fun s' a' w' F' O' bB b7 k1 k2=>hk s' a' w' F' O' bB b7 k1 (k2.trans z5')) fun v u s' a' w' F' O' bB b7 k0 k1 k2 k3=>hp v u s' a' w' F' O' bB b7 k0 k1 k2 (k3.trans z5'))
theorem Tx {E:Env} {bH:List CT} {ops:Array Oper} {κ:bK→Option R} {zx:TA→bK→Option R} {z:R} {m0:Nat} {n0:Nat×Nat} {ro:Option Nat} {Q:Exit→Act→World→Prop} (hE:vT E bH):∀ {l:List Oper} {s:bK} {w:World} {F O:Nat→Prop} {μ:Nat→Nat} {ft:Nat→Nat→Prop} {a:Act},
  I8 E bH ops l s κ zx=some z→s.ok→m0≤s.N→OY n0 s a→SR w F O μ (below s.N) s.st ft a→
  (∀ s' a' w' F' O' bB b7,κ s'=some z→x5 w F O μ m0 n0 s' a' w' F' O' bB b7→Q .normal a' w')→
  (∀ v u s' a' w' F' O' bB b7,zx v s'=some z→v.wf s'.H s'.N→VR w' F' bB (below s'.N) (v.av s'.H) u→x5 w F O μ m0 n0 s' a' w' F' O' bB b7→Q (.panic [{ v:=u,recovered:=false }]) a' w')→wpListIn (Wr ro) 0 E.P ops Q l a w
 | [],s,w,F,O,μ,ft,a,h,ho,hm,hn,hs,hk,hp=>by
  simp only [I8] at h
  exact hk s a w F O μ ft h (.refl ho hm hn hs)
 | o::rest,s,w,F,O,μ,ft,a,h,ho,hm,hn,hs,hk,hp=>by
  simp only [I8] at h
  have go:∀ (s0:bK) (b:Bool),NP E bH o s0 b (fun s=>I8 E bH ops rest s κ zx) zx=some z→nU s0 o.dst=true→s0.ok→m0≤s0.N→OY n0 s0 a→SR w F O μ (below s0.N) s0.st ft a→Region.wanted o (yielded ops a.tmps)=b→wpListIn (Wr ro) 0 E.P ops Q (o::rest) a w:=by
   intro s0 b h0 Z1 ho0 hm0 Lc J5 hw0
   exact Z0 (ops:=ops) hE h0 Z1 hw0 ho0 hm0 Lc J5 (fun s' a' w' F' O' bB b7 Oj hh=>Tx hE Oj hh.ok hh.le hh.nt hh.sr
    (fun s2 a2 w2 F2 O2 FE Lg k1 k2=>hk s2 a2 w2 F2 O2 FE Lg k1 (k2.trans hh.fr))
    (fun v u s2 a2 w2 F2 O2 FE Lg k1 kw k2 k3=>hp v u s2 a2 w2 F2 O2 FE Lg k1 kw k2 (k3.trans hh.fr))) hp
  split at h
  ·rename_i hd
   split at h
   ·rename_i hw
    exact go s true h hd ho hm hn hs (oE hs hw)
   ·rename_i hw
    exact go s false h hd ho hm hn hs (oE hs hw)
   ·rename_i t b c hw
    have hl:=Hu hw
    have Xp:=oE hs hw
    simp only at Xp
    cases b with
    | true=>
     refine go _ c h hd (I7 ho) hm (hn.to rfl) (L7 hs hl) ?_
     rw [Xp];cases c<;>rfl
    | false=>
     refine go _ (!c) h hd (I7 ho) hm (hn.to rfl) (L7 hs hl) ?_
     rw [Xp];cases c<;>rfl
   ·cases h
  ·cases h
end Go.Proofs.YtljfmaaadnoggaaGreatDoor.cU
