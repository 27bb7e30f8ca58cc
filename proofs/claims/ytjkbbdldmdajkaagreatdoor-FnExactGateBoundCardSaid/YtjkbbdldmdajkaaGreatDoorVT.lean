/- A region in the text's order. No condition. -/
import Derived.Test.YtjkbbdldmdajkaaGreatDoorVS
import Derived.TacticsIn
import Derived.OrdersIn
namespace Go.Proofs.YtjkbbdldmdajkaaGreatDoor.c_
open Go Go.RowKit
variable {w w' xk:World} {F F' Bs O O' v8:Nat→Prop} {μ bC lG:Nat→Nat} {K K' EF:Nat→Prop} {ft bZ:Nat→Nat→Prop} {P:Program} {R:Type}
def Wr (r:Option Nat):Fence:={ Fence.wide with round:=r }
theorem agp:Wr none=Fence.wide:=rfl
theorem aet {r:Option Nat} {m m':Machine}:StepsIn (Machine.fenced P (Wr r)) P m m'↔Steps P m m':=stepsIn_wide
theorem agq {r:Option Nat} (n:Nat):(Wr r).room n:=room_wide n
theorem VP {r:Option Nat} {n:Nat} {f:FuncId} {args:Array Value} {R:Ending→World→Prop} (h:Calls P f args w R):CallsIn (Wr r) n P f args w R:=
 ⟨trivial,fun cs _=>(callsIn_wide (n:=n).2 h).2 cs (room_wide _)⟩
theorem YA {r:Option Nat} {n:Nat} {row:String} {args:Array Value} {R:Value→World→Prop} (h:Rows P row args w R):RowsIn (Wr r) n P row args w R:=
 fun c cs _=>let ⟨v,w',q,s⟩:=h c cs;⟨v,w',q,stepsIn_wide.2 s⟩
theorem T8 {r:Option Nat} {o:Oper} {a:Act} {K:Act→World→Prop} {Q:Exit→Act→World→Prop} (hd:∀ c,o.op≠.defer c) (h:o.wp P a w K Q):o.wpIn (Wr r) 0 P a w K Q:=by
 refine ⟨fun f _=>trivial,?_⟩;rw [Oper.semAt_eq _ _ _ hd];unfold Oper.wp at h;generalize (execOp a.eval o).run P w=x at h;have no:(Wr r).depth.isSome=true→1≤0:=fun h=>by cases h
 cases x with
 | ok x w'=>
  cases x<;>simp only [Oper.upon,Oper.uponIn] at h ⊢ <;>
   first
    | exact h
    | exact ⟨no,VP h⟩
    | exact ⟨no,YA h⟩
    | exact h.elim
 | halt x w'=>cases x<;>simp only [Oper.upon,Oper.uponIn] at h ⊢<;>exact h
mutual
def TA.qc (i:Nat) (x:cN):TA→TA
 | .ow id=>match Nat.beq id i with
  | true=>.d x
  | false=>.ow id
 | .agg cs=>.agg (EZ i x cs)
 | .rb cs off=>.rb (EZ i x cs) off
 | .nP cs=>.nP (EZ i x cs)
 | .pK t a=>.pK t (a.qc i x)
 | .fn f xs ys=>.fn f (EZ i x xs) (EZ i x ys)
 | a=>a
def EZ (i:Nat) (x:cN):List TA→List TA
 | []=>[]
 | a::r=>a.qc i x::EZ i x r
end
def aY.qc (i:Nat) (x:cN):aY→aY
 | .box l=>.box (EZ i x l)
 | b=>b
def VQ (s:bP) (i:Nat):bP:=match aT s.H i with
 | some (.row t _ xs)=>⟨s.nt,s.N,s.tm.map fun p=>(p.1,p.2.qc i ⟨.sl t,xs⟩),cD (s.H.map fun p=>(p.1,p.2.qc i ⟨.sl t,xs⟩)) [(i,none)]⟩
 | _=>s
def E0 (s:bP):List Nat→bP
 | []=>s
 | i::r=>E0 (VQ s i) r
theorem E1 (i:Nat) (x:cN):∀ l:List TA,EZ i x l=l.map (TA.qc i x)
 | []=>by simp [EZ]
 | a::r=>by simp [EZ,E1 i x r]
theorem Ot (i:Nat) (x:cN) (t:Nat):∀ l:List (Nat×TA),look (l.map fun p=>(p.1,p.2.qc i x)) t=(look l t).qc i x
 | []=>by simp only [List.map_nil,look,TA.qc]
 | p::r=>by
  simp only [List.map_cons,look];cases Nat.beq t p.1 with
  | true=>rfl
  | false=>exact Ot i x t r
theorem KP (i:Nat) (x:cN) (t:Nat):∀ l:List (Nat×aY),aT (l.map fun p=>(p.1,p.2.qc i x)) t=(aT l t).map (aY.qc i x)
 | []=>rfl
 | p::r=>by
  simp only [List.map_cons,aT];cases Nat.beq t p.1 with
  | true=>rfl
  | false=>exact KP i x t r
theorem WV (i:Nat) (x:cN) (b:Option aY):fH (b.map (aY.qc i x))=fH b:=by
 cases b with
 | none=>rfl
 | some b=>cases b<;>rfl
mutual
theorem R4 {H H':List (Nat×aY)} {i:Nat} {t:Ty} {v:RV} {xs:List t.dn} (hi:aT H i=some (.row t v xs)) (rR:∀ id,fH (aT H' id)=fH (aT H id)) (hF:∀ b,F b→F' b)
  (hz:∀ u,VR w F μ K (du v.b i xs.length (fy t)) u→VR w F' μ K (cR ⟨.sl t,xs⟩) u):∀ (a:TA) {u:Value},VR w F μ K (a.av H) u→VR w F' μ K ((a.qc i ⟨.sl t,xs⟩).av H') u
 | .ow id,u,h=>by
  simp only [TA.qc];cases e:Nat.beq id i with
  | true=>
   have:=Nat.eq_of_beq_eq_true e;subst this;simp only [TA.av,hi,fH] at h;simp only [TA.av];exact hz u h
  | false=>
   simp only [TA.av,rR id];simp only [TA.av] at h;exact h.mono (fun _ _=>rfl) hF (fun _ _=>rfl) (fun _ h=>h) fun _ _=>rfl
 | .agg cs,u,h=>by
  simp only [TA.av] at h;simp only [TA.qc,TA.av];obtain ⟨vs,rfl,zd⟩:=h.fU;exact .rP (Fw hi rR hF hz cs zd)
 | .rb cs off,u,h=>by
  simp only [TA.av] at h;simp only [TA.qc,TA.av];cases h with
  | rb _ _ b u hb hu hv=>
   have zd:iL w F μ K (dD H cs) ((List.range (dD H cs).length).map u):=⟨by simp,fun i hi=>by
    have:((List.range (dD H cs).length).map u).getD i undef=u i:=by simp [List.getD,hi]
    rw [this];exact hv i hi⟩
   have k3:=Fw hi rR hF hz cs zd;have kl:(dD H' (EZ i ⟨.sl t,xs⟩ cs)).length=(dD H cs).length:=by have:=k3.1;simpa using this
   refine .rb _ _ b u (hF b hb) (fun j hj=>hu j (by omega)) fun j hj=>?_;have k4:=k3.2 j hj;have:((List.range (dD H cs).length).map u).getD j undef=u j:=by simp [List.getD,show j < (dD H cs).length by omega]
   rwa [this] at k4
 | .nP cs,u,h=>by
  simp only [TA.av] at h;simp only [TA.qc,TA.av];obtain ⟨vs,rfl,zd⟩:=h.I1;exact .Ls (Fw hi rR hF hz cs zd)
 | .pK q a,u,h=>by
  simp only [TA.av] at h;simp only [TA.qc,TA.av];obtain ⟨v',rfl,hv⟩:=h.Co;exact .pK _ _ _ (R4 hi rR hF hz a hv)
 | .fn f as bs,u,h=>by
  simp only [TA.av] at h;simp only [TA.qc,TA.av];obtain ⟨vs,us,rfl,h1,h2⟩:=h.Kq;exact .aah (Fw hi rR hF hz as h1) (Fw hi rR hF hz bs h2)
 | .top,u,h=>by simp only [TA.qc,TA.av];exact .top _
 | .lit q,u,h=>by simp only [TA.qc,TA.av] at h ⊢;exact h.mono (fun _ _=>rfl) hF (fun _ _=>rfl) (fun _ h=>h) fun _ _=>rfl
 | .d q,u,h=>by simp only [TA.qc,TA.av] at h ⊢;exact h.mono (fun _ _=>rfl) hF (fun _ _=>rfl) (fun _ h=>h) fun _ _=>rfl
 | .fB,u,h=>by simp only [TA.qc,TA.av] at h ⊢;exact h.mono (fun _ _=>rfl) hF (fun _ _=>rfl) (fun _ h=>h) fun _ _=>rfl
 | .fp q y off,u,h=>by simp only [TA.qc,TA.av] at h ⊢;exact h.mono (fun _ _=>rfl) hF (fun _ _=>rfl) (fun _ h=>h) fun _ _=>rfl
 | .bs id n e,u,h=>by simp only [TA.qc,TA.av] at h ⊢;exact h.mono (fun _ _=>rfl) hF (fun _ _=>rfl) (fun _ h=>h) fun _ _=>rfl
 | .bp id off,u,h=>by simp only [TA.qc,TA.av] at h ⊢;exact h.mono (fun _ _=>rfl) hF (fun _ _=>rfl) (fun _ h=>h) fun _ _=>rfl
 | .mp id,u,h=>by simp only [TA.qc,TA.av] at h ⊢;exact h.mono (fun _ _=>rfl) hF (fun _ _=>rfl) (fun _ h=>h) fun _ _=>rfl
 | .rp id q off,u,h=>by
  simp only [TA.qc,TA.av,rR id] at h ⊢;exact h.mono (fun _ _=>rfl) hF (fun _ _=>rfl) (fun _ h=>h) fun _ _=>rfl
theorem Fw {H H':List (Nat×aY)} {i:Nat} {t:Ty} {v:RV} {xs:List t.dn} (hi:aT H i=some (.row t v xs)) (rR:∀ id,fH (aT H' id)=fH (aT H id)) (hF:∀ b,F b→F' b)
  (hz:∀ u,VR w F μ K (du v.b i xs.length (fy t)) u→VR w F' μ K (cR ⟨.sl t,xs⟩) u):∀ (l:List TA) {us:List Value},iL w F μ K (dD H l) us→iL w F' μ K (dD H' (EZ i ⟨.sl t,xs⟩ l)) us
 | [],us,h=>by
  simp only [dD] at h;simp only [EZ,dD];rw [h.iK];exact .nil
 | a::r,us,h=>by
  simp only [dD] at h;simp only [EZ,dD];obtain ⟨u,q,rfl,h1,h2⟩:=h.cons_inv;exact .cons (R4 hi rR hF hz a h1) (Fw hi rR hF hz r h2)
end
mutual
theorem VS {H H':List (Nat×aY)} {N i:Nat} {x:cN} (rR:∀ id,fH (aT H' id)=fH (aT H id)):∀ (a:TA),a.wf H N→(a.qc i x).wf H' N
 | .ow id,h=>by
  simp only [TA.qc];cases Nat.beq id i with
  | true=>simp only [TA.wf]
  | false=>simp only [TA.wf] at h ⊢;exact h
 | .agg cs,h=>by simp only [TA.qc,TA.wf] at h ⊢;exact CH rR cs h
 | .rb cs off,h=>by simp only [TA.qc,TA.wf] at h ⊢;exact CH rR cs h
 | .nP cs,h=>by simp only [TA.qc,TA.wf] at h ⊢;exact CH rR cs h
 | .pK q a,h=>by simp only [TA.qc,TA.wf] at h ⊢;exact VS rR a h
 | .fn f as bs,h=>by simp only [TA.qc,TA.wf] at h ⊢;exact ⟨CH rR as h.1,CH rR bs h.2⟩
 | .rp id q off,h=>by simp only [TA.qc,TA.wf,rR id] at h ⊢;exact h
 | .top,h=>by simp only [TA.qc,TA.wf]
 | .lit q,h=>by simp only [TA.qc,TA.wf]
 | .d q,h=>by simp only [TA.qc,TA.wf]
 | .fB,h=>by simp only [TA.qc,TA.wf]
 | .fp q y off,h=>by simp only [TA.qc,TA.wf]
 | .bs id n e,h=>by simp only [TA.qc,TA.wf]
 | .bp id off,h=>by simp only [TA.qc,TA.wf]
 | .mp id,h=>by simp only [TA.qc,TA.wf]
theorem CH {H H':List (Nat×aY)} {N i:Nat} {x:cN} (rR:∀ id,fH (aT H' id)=fH (aT H id)):∀ (l:List TA),im H N l→im H' N (EZ i x l)
 | [],h=>by simp only [EZ,im]
 | a::r,h=>by simp only [EZ,im] at h ⊢;exact ⟨VS rR a h.1,CH rR r h.2⟩
end
theorem T9 {H H':List (Nat×aY)} {i:Nat} {x:cN} (b:aY):((b.qc i x).dC H').fc=(b.dC H).fc:=by
 cases b with
 | dq t v xs i' os=>simp only [aY.qc,aY.dC];cases v.b<;>rfl
 | row t v xs=>rfl
 | _=>rfl
theorem acB {s:bP} {a:Act} (i:Nat) (ho:s.ok) (hs:SR w F O μ (below s.N) s.st ft a):(VQ s i).ok∧(VQ s i).N=s.N∧(VQ s i).nt=s.nt∧
  ∃ F' O',SR w F' O' μ (below (VQ s i).N) (VQ s i).st ft a∧Fr w F O μ (below s.N) w F' O' μ:=by
 unfold VQ;split
 ·rename_i t v xs hi
  let F':Nat→Prop:=fun b=>F b∨(s.st.H.live i∧ft i b)
  let O':Nat→Prop:=fun b=>O b∧¬ (s.st.H.live i∧ft i b)
  generalize hH':cD (s.H.map fun p=>(p.1,p.2.qc i ⟨.sl t,xs⟩)) [(i,none)]=H';have hl:∀ id,id≠i→aT H' id=(aT s.H id).map (aY.qc i ⟨.sl t,xs⟩):=fun id bY=>by
   rw [← hH'];simp only [cD,aT,cd bY,KP]
  have hli:∃ x,aT H' i=some (.bY x):=by
   rw [← hH'];simp only [cD,aT,Nat.beq_refl];exact ⟨_,rfl⟩
  have rR:∀ id,fH (aT H' id)=fH (aT s.H id):=fun id=>by
   by_cases e:id=i
   ·subst e;rw [← hH'];simp only [cD,aT,Nat.beq_refl,KP];exact WV _ _ _
   ·rw [hl id e,WV]
  have hF:∀ b,F b→F' b:=fun b h=>.inl h;have hz:∀ u,VR w F μ (below s.N) (du v.b i xs.length (fy t)) u→VR w F' μ (below s.N) (cR ⟨.sl t,xs⟩) u:=fun u hu=>KG hs hi hu hF (fun gQ b hb=>.inr ⟨gQ,hb⟩);refine ⟨⟨fun q=>?_,fun id l Rb=>?_⟩,rfl,rfl,F',O',⟨?_,hs.nt,fun q=>?_,hs.df.sub (fun b hb=>hb.1) fun b hb=>hb.imp id fun ⟨h1,h2⟩=>hs.hr.own i h1 b h2⟩,⟨rfl,rfl,rfl,Nat.le_refl _,fun _ _=>rfl,hF,fun _ _=>rfl,fun _ _ _=>rfl,fun b hb=>.inl hb.1,fun b hb=>?_⟩⟩
  ·show (look (s.tm.map fun p=>(p.1,p.2.qc i ⟨.sl t,xs⟩)) q).wf H' s.N;rw [Ot];exact VS rR _ (ho.tm q)
  ·have Rb:aT H' id=some l:=Rb;by_cases e:id=i
   ·obtain ⟨x,hx⟩:=hli;rw [e,hx] at Rb;cases Rb;simp only [aY.refs,im]
   ·rw [hl id e] at Rb;cases hb:aT s.H id with
    | none=>rw [hb] at Rb;cases Rb
    | some b=>
     rw [hb] at Rb;simp only [Option.map_some,Option.some.injEq] at Rb;subst Rb;have hw:=ho.H id b hb;cases b with
     | box l0=>exact CH rR l0 hw
     | dq t' v' xs' i' os=>exact (hG (fun b9 _=>rR b9) (Nat.le_refl _) _ hw).2
     | _=>simp only [aY.qc,aY.refs,im]
  ·have hr:=hs.hr;have lv:∀ id,Hp.live (xn H') id→id≠i∧s.st.H.live id:=by
    rintro id ⟨b',cl,hlb⟩
    obtain ⟨c,hc,hv,rfl⟩:=iA cl;have qL:id≠i:=fun e=>by
     obtain ⟨x,hx⟩:=hli;rw [e,hx] at hc;cases hc;cases hv
    rw [hl id qL] at hc;cases hb:aT s.H id with
    | none=>rw [hb] at hc;cases hc
    | some b=>
     rw [hb] at hc;simp only [Option.map_some,Option.some.injEq] at hc;subst hc;refine ⟨qL,_,dF hb (by cases b<;>first | rfl | (cases hv)),?_⟩;rw [T9] at hlb;exact hlb
   show HR w F' O' μ (below s.N) (xn H') ft;refine { lt:=hr.lt,known:=fun id b' cl=>?_,dC:=fun id b' cl hlb=>?_,self:=fun id h=>hr.self id (lv id h).2,own:=fun id h x hx=>⟨hr.own id (lv id h).2 x hx,fun ⟨h1,h2⟩=>(lv id h).1 (hr.dj id i (lv id h).2 h1 x hx h2)⟩,dj:=fun id b9 h h'=>hr.dj id b9 (lv id h).2 (lv b9 h').2,zc:=fun b hb hf=>?_,wf:=fun b hb=>?_,rT:=fun b hb=>hr.rT b hb.1,pos:=hr.pos.mono (Nat.le_refl _) (fun _ h=>.inl h) fun _ _=>rfl }
   ·obtain ⟨c,hc,hv,rfl⟩:=iA cl;have qL:id≠i:=fun e=>by
     obtain ⟨x,hx⟩:=hli;rw [e,hx] at hc;cases hc;cases hv
    rw [hl id qL] at hc;cases hb:aT s.H id with
    | none=>rw [hb] at hc;cases hc
    | some b=>
     rw [hb] at hc;simp only [Option.map_some,Option.some.injEq] at hc;subst hc;exact hr.known id _ (dF hb (by cases b<;>first | rfl | (cases hv)))
   ·obtain ⟨c,hc,hv,rfl⟩:=iA cl;have qL:id≠i:=fun e=>by
     obtain ⟨x,hx⟩:=hli;rw [e,hx] at hc;cases hc;cases hv
    rw [hl id qL] at hc;cases hb:aT s.H id with
    | none=>rw [hb] at hc;cases hc
    | some b=>
     rw [hb] at hc;simp only [Option.map_some,Option.some.injEq] at hc;subst hc;obtain ⟨o,ho1,hB⟩:=hr.dC id _ (dF hb (by cases b<;>first | rfl | (cases hv))) (by rw [T9] at hlb;exact hlb);refine ⟨o,ho1,?_⟩;have up:∀ {B:jV},ik w F μ (below s.N) (ft id) (μ id) o B→ik w F' μ (below s.N) (ft id) (μ id) o B:=fun hB=>hB.mono (fun _ _=>rfl) hF (fun _ _=>rfl) (fun _ h=>h) (fun _ _=>rfl) (fun _ _ _=>rfl);cases b with
     | box l0=>
      obtain ⟨cs,q,m1,m2,m3,m4⟩:=hB;refine ⟨cs,q,m1,m2,?_,fun k hk=>?_⟩
      ·rw [bB] at m3 ⊢;rw [E1];simpa using m3
      ·rw [bB,E1,List.length_map] at hk;have m5:=m4 k (by rw [bB];exact hk);rw [dx _ _ _ hk] at m5;rw [dx _ _ _ (by rw [E1];simpa using hk),E1];have e5:(l0.map (TA.qc i ⟨.sl t,xs⟩)).getD k .top=(l0.getD k .top).qc i ⟨.sl t,xs⟩:=by simp [List.getD,hk]
       rw [e5];exact R4 hi rR hF hz _ m5
     | row t' v' xs'=>exact up hB
     | dq t' v' xs' i' os=>
      have e6:(aY.dq t' v' xs' i' os).dC H'=(aY.dq t' v' xs' i' os).dC s.H:=qN (N:=s.N) (fun b9 _=>rR b9) (ho.H id _ hb);rw [show aY.qc i ⟨.sl t,xs⟩ (aY.dq t' v' xs' i' os)=aY.dq t' v' xs' i' os from rfl,e6];exact up hB
     | bY x=>cases hv
     | dmap i' l'=>exact up hB
     | Tv t' l'=>exact up hB
   ·rcases hf with h | h
    ·exact hr.zc b hb.1 h
    ·exact hb.2 h
   ·rcases hb with h | ⟨h1,h2⟩
    ·exact hr.wf b h
    ·exact hr.rT b (hr.own i h1 b h2)
  ·show VR w F' μ _ ((look (s.tm.map fun p=>(p.1,p.2.qc i ⟨.sl t,xs⟩)) q).av H') _;rw [Ot];exact R4 hi rR hF hz _ (hs.tm q)
  ·rcases hb with h | ⟨h1,h2⟩
   ·exact .inl h
   ·exact .inr (.inr (hs.hr.own i h1 b h2))
 ·exact ⟨ho,rfl,rfl,F,O,hs,Fr.refl _ _ _ _ _⟩
theorem R5 {a:Act}:∀ (L:List Nat) {s:bP} {F O:Nat→Prop},s.ok→SR w F O μ (below s.N) s.st ft a→(E0 s L).ok∧(E0 s L).N=s.N∧(E0 s L).nt=s.nt∧
  ∃ F' O',SR w F' O' μ (below (E0 s L).N) (E0 s L).st ft a∧Fr w F O μ (below s.N) w F' O' μ
 | [],s,F,O,ho,hs=>⟨ho,rfl,rfl,F,O,hs,Fr.refl _ _ _ _ _⟩
 | i::r,s,F,O,ho,hs=>by
  obtain ⟨h1,h2,h3,F1,O1,h4,h5⟩:=acB i ho hs;obtain ⟨k1,k2,k3,F2,O2,k4,k5⟩:=R5 r h1 h4;exact ⟨k1,k2.trans h2,k3.trans h3,F2,O2,k4,h5.trans (by rw [← h2];exact k5)⟩
def T_:TA→List Nat
 | .ow id=>[id]
 | .agg cs=>cs.flatMap fun a=>match a with
  | .ow id=>[id]
  | _=>[]
 | _=>[]
def aeu:List CT→FuncId→bP→List TA→List Nat
 | [],_,_,_=>[]
 | c::r,f,s,as=>match Nat.beq c.f f&&fits c s as with
  | true=>match c.outs.all fun a=>a.res.flat&&a.dc.all Bp.flat with
   | true=>[]
   | false=>match CF s.H c.args as ⟨[],[]⟩ with
    | some (e1,_)=>match EX s.H c.dc 0 e1 with
     | some (e2,_)=>e2.fz
     | none=>[]
    | none=>[]
  | false=>aeu r f s as
def KQ (E:Env) (bN:List CT) (o:Oper) (s:bP):List Nat:=match o.op with
 | .call ⟨.value x,⟨args⟩,_⟩=>match s.val x with
  | .fn (.func f) first cap=>aeu (KN E o.dst bN) f s ((first++args.map s.val)++cap)
  | _=>[]
 | .call ⟨.invoke x name,⟨args⟩,_⟩=>match s.val x with
  | .pK t b=>match Og E.mt t name with
   | some f=>aeu (KN E o.dst bN) f s (b::args.map s.val)
   | none=>[]
  | _=>[]
 | .store _ x y=>match s.val x with
  | .rp _ _ _=>match rpD s.H (s.val x) with
   | true=>[]
   | false=>T_ (s.val y)
  | _=>[]
 | .buildSlice t _ ⟨ps⟩=>match acy E o.dst with
  | true=>[]
  | false=>match adf E t with
   | some _=>ps.flatMap fun p=>T_ (s.val p.2)
   | none=>[]
 | .box _ x=>match o.dst with
  | some d=>match xH E.fz d with
   | true=>T_ (s.val x)
   | false=>[]
  | none=>[]
 | .slice _ x _ _ none=>T_ (s.val x)
 | _=>[]
def aaT (H:List (Nat×aY)) (id:Nat):Bool:=match aT H id with
 | some (.dq _ _ _ _ _)=>true
 | _=>false
def rpH (H:List (Nat×aY)):TA→List Nat
 | .rp id _ _=>match aaT H id with
  | true=>[id]
  | false=>[]
 | _=>[]
def PB (o:Oper) (s:bP):List Nat:=match o.op with
 | .load _ x=>rpH s.H (s.val x)
 | .store _ x _=>rpH s.H (s.val x)
 | .call ⟨_,⟨args⟩,_⟩=>args.flatMap fun x=>(T_ (s.val x)).filter (aaT s.H)
 | _=>[]
def bP.E2 (s:bP) (t:Nat) (b:Bool):bP:={ s with tm:=(t,.d ⟨.bool,b⟩)::s.tm }
theorem Jt {s:bP} {t:Nat} {b:Bool} (ho:s.ok):(s.E2 t b).ok:=by
 refine ⟨fun u=>?_,ho.H⟩;simp only [bP.E2,look];cases e:Nat.beq u t with
 | true=>simp only [TA.wf]
 | false=>exact ho.tm u
theorem Mp {s:bP} {t:Nat} {b:Bool} {a:Act} (hs:SR w F O μ K s.st ft a) (h:look s.tm t=.d ⟨.bool,b⟩):SR w F O μ K (s.E2 t b).st ft a:=by
 refine ⟨hs.hr,hs.nt,fun u=>?_,hs.df⟩;have:=hs.tm u;simp only [bP.st,bP.E2,look] at this ⊢;cases e:Nat.beq u t with
 | true=>rw [Nat.eq_of_beq_eq_true e,h] at this;rw [Nat.eq_of_beq_eq_true e];exact this
 | false=>exact this
theorem H6 {ops:Array Oper} {s:bP} {o:Oper} {t:Nat} {b c:Bool} (h:Oq ops s o=some (.on t b c)):look s.tm t=.d ⟨.bool,b⟩:=by
 unfold Oq at h;split at h
 ·cases h
 ·split at h
  ·split at h
   ·rename_i b' hb;cases h;exact hb
   ·cases h
   ·cases h
  ·cases h
def Ou (E:Env) (bN:List CT) (o:Oper) (s:bP) (b:Bool) (κ:bP→Option R) (Az:TA→bP→Option R):Option R:=
 match b with
 | true=>match E0 (th s (PB o s)) (KQ E bN o (th s (PB o s))) with
  | ⟨nt,N,tm,H⟩=>evT E bN o ⟨nt,N,tm,H⟩ (fun r=>κ ((bP.next ⟨nt,N,tm,H⟩ r).put o.dst r.v)) (fun r=>Az r.v (bP.next ⟨nt,N,tm,H⟩ r))
 | false=>κ (s.put o.dst (.lit undef))
def Ju (E:Env) (bN:List CT) (ops:Array Oper):List Oper→bP→(bP→Option R)→(TA→bP→Option R)→Option R
 | [],s,κ,_=>κ s
 | o::rest,s,κ,Az=>match pA s o.dst with
  | true=>match Oq ops s o with
   | some .yes=>Ou E bN o s true (fun s=>Ju E bN ops rest s κ Az) Az
   | some .no=>Ou E bN o s false (fun s=>Ju E bN ops rest s κ Az) Az
   | some (.on t b c)=>cond b (Ou E bN o (s.E2 t true) c (fun s=>Ju E bN ops rest s κ Az) Az) (Ou E bN o (s.E2 t false) (!c) (fun s=>Ju E bN ops rest s κ Az) Az)
   | none=>none
  | false=>none
def PC (n0:Nat×Nat) (s:bP) (a:Act):Prop:=s.nt=n0.1∧∀ b,yV b∈a.defers→n0.2≤b
theorem PC.put {n0:Nat×Nat} {s s':bP} {a:Act} {d d':Option Nat} {v:TA} {u:Value} (h:PC n0 s a) (e:s'.nt=s.nt):PC n0 (s'.put d v) (a.put d' u):=by
 cases d<;>cases d'<;>exact ⟨e.trans h.1,h.2⟩
theorem PC.to {n0:Nat×Nat} {s s':bP} {a:Act} (h:PC n0 s a) (e:s'.nt=s.nt):PC n0 s' a:=⟨e.trans h.1,h.2⟩
structure zl (w:World) (F O:Nat→Prop) (μ:Nat→Nat) (m0:Nat) (n0:Nat×Nat) (s':bP) (a':Act) (w':World) (F' O':Nat→Prop) (bC:Nat→Nat) (bZ:Nat→Nat→Prop):Prop where
 ok:s'.ok
 le:m0≤s'.N
 nt:PC n0 s' a'
 sr:SR w' F' O' bC (below s'.N) s'.st bZ a'
 fr:Fr w F O μ (below m0) w' F' O' bC
theorem zl.trans {m0:Nat} {n0:Nat×Nat} {s':bP} {a':Act} (hf:Fr w F O μ (below m0) w' F' O' bC) (h:zl w' F' O' bC m0 n0 s' a' xk Bs v8 lG bZ):zl w F O μ m0 n0 s' a' xk Bs v8 lG bZ:=
 ⟨h.ok,h.le,h.nt,h.sr,hf.trans h.fr⟩
theorem zl.refl {m0:Nat} {n0:Nat×Nat} {s:bP} {a:Act} (ho:s.ok) (hm:m0≤s.N) (hn:PC n0 s a) (hs:SR w F O μ (below s.N) s.st ft a):zl w F O μ m0 n0 s a w F O μ ft:=⟨ho,hm,hn,hs,Fr.refl _ _ _ _ _⟩
theorem VT {E:Env} {bN:List CT} {o:Oper} {s:bP} {κ Az:cx→Option R} {z:R} (h:evT E bN o s κ Az=some z):∀ c,o.op≠.defer c:=fun c hc=>by
 simp [evT,ev0,hc] at h
theorem YB {E:Env} {bN:List CT} {o:Oper} {s:bP} {κ:bP→Option R} {Az:TA→bP→Option R} {z:R} {m0:Nat} {n0:Nat×Nat} {a:Act} {Kn:Act→World→Prop} {Q:Exit→Act→World→Prop} (hE:xo E bN)
  (h:evT E bN o s (fun r=>κ ((s.next r).put o.dst r.v)) (fun r=>Az r.v (s.next r))=some z) (hd:pA s o.dst=true) (ho:s.ok) (hm:m0≤s.N) (hn:PC n0 s a) (hs:SR w F O μ (below s.N) s.st ft a)
  (hk:∀ s' a' w' F' O' bC bZ,κ s'=some z→zl w F O μ m0 n0 s' a' w' F' O' bC bZ→Kn a' w')
  (hp:∀ v u s' a' w' F' O' bC bZ,Az v s'=some z→v.wf s'.H s'.N→VR w' F' bC (below s'.N) (v.av s'.H) u→zl w F O μ m0 n0 s' a' w' F' O' bC bZ→Q (.panic [{ v:=u,recovered:=false }]) a' w'):o.wp E.P a w Kn Q:=by
 rcases VO hE ho h with ⟨r,h1,h2,h3⟩ | ⟨r,h1,h2,h3⟩
 ·refine Wx h1 hs fun v w' F' O' bC bZ k1 k2 k3=>?_;have IC:=RF hs ho h2 k2 k3;have JH:=Jg ho h2;have hN:((s.next r).put o.dst r.v).N=s.N+r.k:=by cases o.dst<;>rfl
  have NO:pA (s.next r) o.dst=true:=by cases PD:o.dst<;>rw [PD] at hd<;>exact hd
  exact hk _ _ w' F' O' bC bZ h3 ⟨Ay JH h2.v,by rw [hN];omega,hn.put rfl,by rw [hN];exact HP IC NO k1,k3.OT fun id (bY:id < m0)=>(show id < s.N by omega)⟩
 ·refine aar h1 hs fun v w' F' O' bC bZ k1 k2 k3=>?_;have IC:=RF hs ho h2 k2 k3;have JH:=Jg ho h2;exact hp r.v v (s.next r) a w' F' O' bC bZ h3 h2.v k1 ⟨JH,by show m0≤s.N+r.k;omega,hn.to rfl,IC,k3.OT fun id (bY:id < m0)=>(show id < s.N by omega)⟩
theorem aaU {E:Env} {bN:List CT} {o:Oper} {s:bP} {b:Bool} {κ:bP→Option R} {Az:TA→bP→Option R} {z:R} {m0:Nat} {n0:Nat×Nat} {a:Act} {ops:Array Oper} {ro:Option Nat} {Kn:Act→World→Prop} {Q:Exit→Act→World→Prop} (hE:xo E bN) (h:Ou E bN o s b κ Az=some z)
  (hd:pA s o.dst=true) (hw:Region.wanted o (yielded ops a.tmps)=b) (ho:s.ok) (hm:m0≤s.N) (hn:PC n0 s a) (hs:SR w F O μ (below s.N) s.st ft a)
  (hk:∀ s' a' w' F' O' bC bZ,κ s'=some z→zl w F O μ m0 n0 s' a' w' F' O' bC bZ→Kn a' w')
  (hp:∀ v u s' a' w' F' O' bC bZ,Az v s'=some z→v.wf s'.H s'.N→VR w' F' bC (below s'.N) (v.av s'.H) u→zl w F O μ m0 n0 s' a' w' F' O' bC bZ→Q (.panic [{ v:=u,recovered:=false }]) a' w'):
  if Region.wanted o (yielded ops a.tmps) then o.wpIn (Wr ro) 0 E.P a w Kn Q else (∀ f,o.about E.P w a.eval=some f→(Wr ro).fn f)∧Kn (a.put o.dst undef) w:=by
 cases b with
 | false=>
  rw [hw];simp only [Ou] at h;simp only [Bool.false_eq_true,if_false];have hN:(s.put o.dst (.lit undef)).N=s.N:=by cases o.dst<;>rfl
  refine ⟨fun _ _=>trivial,?_⟩;exact hk _ _ w F O μ ft h ⟨Ay ho (by simp only [TA.wf]),by rw [hN];exact hm,hn.put rfl,by rw [hN];exact HP hs hd (by simp only [TA.av];exact .lit _),Fr.refl _ _ _ _ _⟩
 | true=>
  rw [hw];obtain ⟨y1,y2,y3,_,Wz,y4⟩:=Jl (PB o s) ho hs;have h:evT E bN o (E0 (th s (PB o s)) (KQ E bN o (th s (PB o s)))) (fun r=>κ ((bP.next (E0 (th s (PB o s)) (KQ E bN o (th s (PB o s)))) r).put o.dst r.v)) (fun r=>Az r.v (bP.next (E0 (th s (PB o s)) (KQ E bN o (th s (PB o s)))) r))=some z:=h;generalize th s (PB o s)=s0 at h y1 y2 y3 y4;rw [← y2] at y4;obtain ⟨z1,z2,z3,F1,O1,z4,z5⟩:=R5 (KQ E bN o s0) y1 y4;rw [y2] at z2 z5;rw [y3] at z3;have hd:pA (E0 s0 (KQ E bN o s0)) o.dst=true:=by
   cases PD:o.dst with
   | none=>rfl
   | some t=>rw [PD] at hd;simp only [pA,z3] at hd ⊢;exact hd
  have Yg:m0≤(E0 s0 (KQ E bN o s0)).N:=by rw [z2];exact hm
  simp only [if_true];have z5':=z5.OT (K':=below m0) fun id (bY:id < m0)=>(show id < s.N by omega);exact T8 (VT h) (YB hE h hd z1 Yg (hn.to z3) z4 (fun s' a' w' F' O' bC bZ k1 k2=>hk s' a' w' F' O' bC bZ k1 (k2.trans z5')) fun v u s' a' w' F' O' bC bZ k0 k1 k2 k3=>hp v u s' a' w' F' O' bC bZ k0 k1 k2 (k3.trans z5'))
theorem Ua {E:Env} {bN:List CT} {ops:Array Oper} {κ:bP→Option R} {Az:TA→bP→Option R} {z:R} {m0:Nat} {n0:Nat×Nat} {ro:Option Nat} {Q:Exit→Act→World→Prop} (hE:xo E bN):∀ {l:List Oper} {s:bP} {w:World} {F O:Nat→Prop} {μ:Nat→Nat} {ft:Nat→Nat→Prop} {a:Act},
  Ju E bN ops l s κ Az=some z→s.ok→m0≤s.N→PC n0 s a→SR w F O μ (below s.N) s.st ft a→
  (∀ s' a' w' F' O' bC bZ,κ s'=some z→zl w F O μ m0 n0 s' a' w' F' O' bC bZ→Q .normal a' w')→
  (∀ v u s' a' w' F' O' bC bZ,Az v s'=some z→v.wf s'.H s'.N→VR w' F' bC (below s'.N) (v.av s'.H) u→zl w F O μ m0 n0 s' a' w' F' O' bC bZ→Q (.panic [{ v:=u,recovered:=false }]) a' w')→wpListIn (Wr ro) 0 E.P ops Q l a w
 | [],s,w,F,O,μ,ft,a,h,ho,hm,hn,hs,hk,hp=>by
  simp only [Ju] at h;exact hk s a w F O μ ft h (.refl ho hm hn hs)
 | o::rest,s,w,F,O,μ,ft,a,h,ho,hm,hn,hs,hk,hp=>by
  simp only [Ju] at h;have go:∀ (s0:bP) (b:Bool),Ou E bN o s0 b (fun s=>Ju E bN ops rest s κ Az) Az=some z→pA s0 o.dst=true→s0.ok→m0≤s0.N→PC n0 s0 a→SR w F O μ (below s0.N) s0.st ft a→Region.wanted o (yielded ops a.tmps)=b→wpListIn (Wr ro) 0 E.P ops Q (o::rest) a w:=by
   intro s0 b h0 hd0 ho0 hm0 JJ Ht hw0;exact aaU (ops:=ops) hE h0 hd0 hw0 ho0 hm0 JJ Ht (fun s' a' w' F' O' bC bZ OW hh=>Ua hE OW hh.ok hh.le hh.nt hh.sr
    (fun s2 a2 w2 F2 O2 Gq Lu k1 k2=>hk s2 a2 w2 F2 O2 Gq Lu k1 (k2.trans hh.fr))
    (fun v u s2 a2 w2 F2 O2 Gq Lu k1 kw k2 k3=>hp v u s2 a2 w2 F2 O2 Gq Lu k1 kw k2 (k3.trans hh.fr))) hp
  split at h
  ·rename_i hd;split at h
   ·rename_i hw;exact go s true h hd ho hm hn hs (qg hs hw)
   ·rename_i hw;exact go s false h hd ho hm hn hs (qg hs hw)
   ·rename_i t b c hw;have hl:=H6 hw;have X8:=qg hs hw;simp only at X8;cases b with
    | true=>
     refine go _ c h hd (Jt ho) hm (hn.to rfl) (Mp hs hl) ?_;rw [X8];cases c<;>rfl
    | false=>
     refine go _ (!c) h hd (Jt ho) hm (hn.to rfl) (Mp hs hl) ?_;rw [X8];cases c<;>rfl
   ·cases h
  ·cases h
end Go.Proofs.YtjkbbdldmdajkaaGreatDoor.c_
