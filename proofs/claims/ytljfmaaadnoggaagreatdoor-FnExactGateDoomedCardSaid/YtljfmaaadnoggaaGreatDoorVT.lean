/- A region in the text's order. No condition. -/
import Derived.Test.YtljfmaaadnoggaaGreatDoorVS
import Derived.TacticsIn
import Derived.OrdersIn
namespace Go.Proofs.YtljfmaaadnoggaaGreatDoor.cX
open Go Go.RowKit
variable {w w' xW:World} {F F' Cq O O' wx:Nat→Prop} {μ bC kZ:Nat→Nat} {K K' Gg:Nat→Prop} {ft b8:Nat→Nat→Prop} {P:Program} {R:Type}
def Wr (r:Option Nat):Fence:={ Fence.wide with round:=r }
theorem aiN:Wr none=Fence.wide:=rfl
theorem agH {r:Option Nat} {m m':Machine}:StepsIn (Machine.fenced P (Wr r)) P m m'↔Steps P m m':=stepsIn_wide
theorem aiO {r:Option Nat} (n:Nat):(Wr r).room n:=room_wide n
theorem Yi {r:Option Nat} {n:Nat} {f:FuncId} {args:Array Value} {R:Ending→World→Prop} (h:Calls P f args w R):CallsIn (Wr r) n P f args w R:=
 ⟨trivial,fun cs _=>(callsIn_wide (n:=n).2 h).2 cs (room_wide _)⟩
theorem aa3 {r:Option Nat} {n:Nat} {row:String} {args:Array Value} {R:Value→World→Prop} (h:Rows P row args w R):RowsIn (Wr r) n P row args w R:=
 fun c cs _=>let ⟨v,w',q,s⟩:=h c cs;⟨v,w',q,stepsIn_wide.2 s⟩
theorem Wp {r:Option Nat} {o:Oper} {a:Act} {K:Act→World→Prop} {Q:Exit→Act→World→Prop} (hd:∀ c,o.op≠.defer c) (h:o.wp P a w K Q):o.wpIn (Wr r) 0 P a w K Q:=by
 refine ⟨fun f _=>trivial,?_⟩
 rw [Oper.semAt_eq _ _ _ hd]
 unfold Oper.wp at h
 generalize (execOp a.eval o).run P w=x at h
 have no:(Wr r).depth.isSome=true→1≤0:=fun h=>by cases h
 cases x with
 | ok x w'=>
  cases x<;>simp only [Oper.upon,Oper.uponIn] at h ⊢ <;>
   first
    | exact h
    | exact ⟨no,Yi h⟩
    | exact ⟨no,aa3 h⟩
    | exact h.elim
 | halt x w'=>cases x<;>simp only [Oper.upon,Oper.uponIn] at h ⊢<;>exact h
mutual
def TA.qU (i:Nat) (x:cI):TA→TA
 | .ow id=>match Nat.beq id i with
  | true=>.d x
  | false=>.ow id
 | .agg cs=>.agg (JS i x cs)
 | .ph cs=>.ph (JS i x cs)
 | .pe t a=>.pe t (a.qU i x)
 | .fn f xs ys=>.fn f (JS i x xs) (JS i x ys)
 | a=>a
def JS (i:Nat) (x:cI):List TA→List TA
 | []=>[]
 | a::r=>a.qU i x::JS i x r
end
def aY.qU (i:Nat) (x:cI):aY→aY
 | .box l=>.box (JS i x l)
 | b=>b
def Yj (s:bQ) (i:Nat):bQ:=match aR s.H i with
 | some (.row t _ xs)=>⟨s.nt,s.N,s.tm.map fun p=>(p.1,p.2.qU i ⟨.sl t,xs⟩),cD (s.H.map fun p=>(p.1,p.2.qU i ⟨.sl t,xs⟩)) [(i,none)]⟩
 | _=>s
def GA (s:bQ):List Nat→bQ
 | []=>s
 | i::r=>GA (Yj s i) r
theorem GB (i:Nat) (x:cI):∀ l:List TA,JS i x l=l.map (TA.qU i x)
 | []=>by simp [JS]
 | a::r=>by simp [JS,GB i x r]
theorem Qq (i:Nat) (x:cI) (t:Nat):∀ l:List (Nat×TA),look (l.map fun p=>(p.1,p.2.qU i x)) t=(look l t).qU i x
 | []=>by simp only [List.map_nil,look,TA.qU]
 | p::r=>by
  simp only [List.map_cons,look]
  cases Nat.beq t p.1 with
  | true=>rfl
  | false=>exact Qq i x t r
theorem MR (i:Nat) (x:cI) (t:Nat):∀ l:List (Nat×aY),aR (l.map fun p=>(p.1,p.2.qU i x)) t=(aR l t).map (aY.qU i x)
 | []=>rfl
 | p::r=>by
  simp only [List.map_cons,aR]
  cases Nat.beq t p.1 with
  | true=>rfl
  | false=>exact MR i x t r
theorem Zv (i:Nat) (x:cI) (b:Option aY):fM (b.map (aY.qU i x))=fM b:=by
 cases b with
 | none=>rfl
 | some b=>cases b<;>rfl
mutual
theorem Um {H H':List (Nat×aY)} {i:Nat} {t:Ty} {v:RV} {xs:List t.dn} (hi:aR H i=some (.row t v xs)) (tA:∀ id,fM (aR H' id)=fM (aR H id)) (hF:∀ b,F b→F' b)
  (hz:∀ u,VR w F μ K (dr v.b i xs.length (fg t)) u→VR w F' μ K (cN ⟨.sl t,xs⟩) u):∀ (a:TA) {u:Value},VR w F μ K (a.av H) u→VR w F' μ K ((a.qU i ⟨.sl t,xs⟩).av H') u
 | .ow id,u,h=>by
  simp only [TA.qU]
  cases e:Nat.beq id i with
  | true=>
   have:=Nat.eq_of_beq_eq_true e
   subst this
   simp only [TA.av,hi,fM] at h
   simp only [TA.av]
   exact hz u h
  | false=>
   simp only [TA.av,tA id]
   simp only [TA.av] at h
   exact h.mono (fun _ _=>rfl) hF (fun _ _=>rfl) (fun _ h=>h) fun _ _=>rfl
 | .agg cs,u,h=>by
  simp only [TA.av] at h
  simp only [TA.qU,TA.av]
  obtain ⟨vs,rfl,CN⟩:=h.fK
  exact .rE (Lo hi tA hF hz cs CN)
 | .ph cs,u,h=>by
  simp only [TA.av] at h
  simp only [TA.qU,TA.av]
  obtain ⟨vs,rfl,CN⟩:=h.KU
  exact .Nx (Lo hi tA hF hz cs CN)
 | .pe q a,u,h=>by
  simp only [TA.av] at h
  simp only [TA.qU,TA.av]
  obtain ⟨v',rfl,hv⟩:=h.Dm
  exact .pe _ _ _ (Um hi tA hF hz a hv)
 | .fn f as bs,u,h=>by
  simp only [TA.av] at h
  simp only [TA.qU,TA.av]
  obtain ⟨vs,us,rfl,h1,h2⟩:=h.Ms
  exact .aca (Lo hi tA hF hz as h1) (Lo hi tA hF hz bs h2)
 | .top,u,h=>by simp only [TA.qU,TA.av];exact .top _
 | .lit q,u,h=>by simp only [TA.qU,TA.av] at h ⊢;exact h.mono (fun _ _=>rfl) hF (fun _ _=>rfl) (fun _ h=>h) fun _ _=>rfl
 | .d q,u,h=>by simp only [TA.qU,TA.av] at h ⊢;exact h.mono (fun _ _=>rfl) hF (fun _ _=>rfl) (fun _ h=>h) fun _ _=>rfl
 | .ff,u,h=>by simp only [TA.qU,TA.av] at h ⊢;exact h.mono (fun _ _=>rfl) hF (fun _ _=>rfl) (fun _ h=>h) fun _ _=>rfl
 | .fp q y off,u,h=>by simp only [TA.qU,TA.av] at h ⊢;exact h.mono (fun _ _=>rfl) hF (fun _ _=>rfl) (fun _ h=>h) fun _ _=>rfl
 | .bs id n e,u,h=>by simp only [TA.qU,TA.av] at h ⊢;exact h.mono (fun _ _=>rfl) hF (fun _ _=>rfl) (fun _ h=>h) fun _ _=>rfl
 | .bp id off,u,h=>by simp only [TA.qU,TA.av] at h ⊢;exact h.mono (fun _ _=>rfl) hF (fun _ _=>rfl) (fun _ h=>h) fun _ _=>rfl
 | .mp id,u,h=>by simp only [TA.qU,TA.av] at h ⊢;exact h.mono (fun _ _=>rfl) hF (fun _ _=>rfl) (fun _ h=>h) fun _ _=>rfl
 | .rp id q off,u,h=>by
  simp only [TA.qU,TA.av,tA id] at h ⊢
  exact h.mono (fun _ _=>rfl) hF (fun _ _=>rfl) (fun _ h=>h) fun _ _=>rfl
theorem Lo {H H':List (Nat×aY)} {i:Nat} {t:Ty} {v:RV} {xs:List t.dn} (hi:aR H i=some (.row t v xs)) (tA:∀ id,fM (aR H' id)=fM (aR H id)) (hF:∀ b,F b→F' b)
  (hz:∀ u,VR w F μ K (dr v.b i xs.length (fg t)) u→VR w F' μ K (cN ⟨.sl t,xs⟩) u):∀ (l:List TA) {us:List Value},iR w F μ K (dU H l) us→iR w F' μ K (dU H' (JS i ⟨.sl t,xs⟩ l)) us
 | [],us,h=>by
  simp only [dU] at h
  simp only [JS,dU]
  rw [h.iH];exact .nil
 | a::r,us,h=>by
  simp only [dU] at h
  simp only [JS,dU]
  obtain ⟨u,q,rfl,h1,h2⟩:=h.cons_inv
  exact .cons (Um hi tA hF hz a h1) (Lo hi tA hF hz r h2)
end
mutual
theorem Yk {H H':List (Nat×aY)} {N i:Nat} {x:cI} (tA:∀ id,fM (aR H' id)=fM (aR H id)):∀ (a:TA),a.wf H N→(a.qU i x).wf H' N
 | .ow id,h=>by
  simp only [TA.qU]
  cases Nat.beq id i with
  | true=>simp only [TA.wf]
  | false=>simp only [TA.wf] at h ⊢;exact h
 | .agg cs,h=>by simp only [TA.qU,TA.wf] at h ⊢;exact Hb tA cs h
 | .ph cs,h=>by simp only [TA.qU,TA.wf] at h ⊢;exact Hb tA cs h
 | .pe q a,h=>by simp only [TA.qU,TA.wf] at h ⊢;exact Yk tA a h
 | .fn f as bs,h=>by simp only [TA.qU,TA.wf] at h ⊢;exact ⟨Hb tA as h.1,Hb tA bs h.2⟩
 | .rp id q off,h=>by simp only [TA.qU,TA.wf,tA id] at h ⊢;exact h
 | .top,h=>by simp only [TA.qU,TA.wf]
 | .lit q,h=>by simp only [TA.qU,TA.wf]
 | .d q,h=>by simp only [TA.qU,TA.wf]
 | .ff,h=>by simp only [TA.qU,TA.wf]
 | .fp q y off,h=>by simp only [TA.qU,TA.wf]
 | .bs id n e,h=>by simp only [TA.qU,TA.wf]
 | .bp id off,h=>by simp only [TA.qU,TA.wf]
 | .mp id,h=>by simp only [TA.qU,TA.wf]
theorem Hb {H H':List (Nat×aY)} {N i:Nat} {x:cI} (tA:∀ id,fM (aR H' id)=fM (aR H id)):∀ (l:List TA),iw H N l→iw H' N (JS i x l)
 | [],h=>by simp only [JS,iw]
 | a::r,h=>by simp only [JS,iw] at h ⊢;exact ⟨Yk tA a h.1,Hb tA r h.2⟩
end
theorem Wq {H H':List (Nat×aY)} {i:Nat} {x:cI} (b:aY):((b.qU i x).dw H').fa=(b.dw H).fa:=by
 cases b with
 | da t v xs i' os=>simp only [aY.qU,aY.dw];cases v.b<;>rfl
 | row t v xs=>rfl
 | _=>rfl
theorem aes {s:bQ} {a:Act} (i:Nat) (ho:s.ok) (hs:SR w F O μ (below s.N) s.st ft a):(Yj s i).ok∧(Yj s i).N=s.N∧(Yj s i).nt=s.nt∧
  ∃ F' O',SR w F' O' μ (below (Yj s i).N) (Yj s i).st ft a∧Fr w F O μ (below s.N) w F' O' μ:=by
 unfold Yj
 split
 ·rename_i t v xs hi
  let F':Nat→Prop:=fun b=>F b∨(s.st.H.live i∧ft i b)
  let O':Nat→Prop:=fun b=>O b∧¬ (s.st.H.live i∧ft i b)
  generalize hH':cD (s.H.map fun p=>(p.1,p.2.qU i ⟨.sl t,xs⟩)) [(i,none)]=H'
  have hl:∀ id,id≠i→aR H' id=(aR s.H id).map (aY.qU i ⟨.sl t,xs⟩):=fun id cb=>by
   rw [← hH']
   simp only [cD,aR,cl cb,MR]
  have hli:∃ x,aR H' i=some (.cb x):=by
   rw [← hH']
   simp only [cD,aR,Nat.beq_refl]
   exact ⟨_,rfl⟩
  have tA:∀ id,fM (aR H' id)=fM (aR s.H id):=fun id=>by
   by_cases e:id=i
   ·subst e
    rw [← hH']
    simp only [cD,aR,Nat.beq_refl,MR]
    exact Zv _ _ _
   ·rw [hl id e,Zv]
  have hF:∀ b,F b→F' b:=fun b h=>.inl h
  have hz:∀ u,VR w F μ (below s.N) (dr v.b i xs.length (fg t)) u→VR w F' μ (below s.N) (cN ⟨.sl t,xs⟩) u:=fun u hu=>MI hs hi hu hF (fun iM b hb=>.inr ⟨iM,hb⟩)
  refine ⟨⟨fun q=>?_,fun id l Tu=>?_⟩,rfl,rfl,F',O',⟨?_,hs.nt,fun q=>?_,hs.df.sub (fun b hb=>hb.1) fun b hb=>hb.imp id fun ⟨h1,h2⟩=>hs.hr.own i h1 b h2⟩,⟨rfl,rfl,rfl,Nat.le_refl _,fun _ _=>rfl,hF,fun _ _=>rfl,fun _ _ _=>rfl,fun b hb=>.inl hb.1,fun b hb=>?_⟩⟩
  ·show (look (s.tm.map fun p=>(p.1,p.2.qU i ⟨.sl t,xs⟩)) q).wf H' s.N
   rw [Qq]
   exact Yk tA _ (ho.tm q)
  ·have Tu:aR H' id=some l:=Tu
   by_cases e:id=i
   ·obtain ⟨x,hx⟩:=hli
    rw [e,hx] at Tu;cases Tu;simp only [aY.refs,iw]
   ·rw [hl id e] at Tu
    cases hb:aR s.H id with
    | none=>rw [hb] at Tu;cases Tu
    | some b=>
     rw [hb] at Tu
     simp only [Option.map_some,Option.some.injEq] at Tu
     subst Tu
     have hw:=ho.H id b hb
     cases b with
     | box l0=>exact Hb tA l0 hw
     | da t' v' xs' i' os=>exact (iK (fun cg _=>tA cg) (Nat.le_refl _) _ hw).2
     | _=>simp only [aY.qU,aY.refs,iw]
  ·have hr:=hs.hr
   have lv:∀ id,Hp.live (xX H') id→id≠i∧s.st.H.live id:=by
    rintro id ⟨b',cu,hlb⟩
    obtain ⟨c,hc,hv,rfl⟩:=iv cu
    have pw:id≠i:=fun e=>by
     obtain ⟨x,hx⟩:=hli
     rw [e,hx] at hc;cases hc;cases hv
    rw [hl id pw] at hc
    cases hb:aR s.H id with
    | none=>rw [hb] at hc;cases hc
    | some b=>
     rw [hb] at hc
     simp only [Option.map_some,Option.some.injEq] at hc
     subst hc
     refine ⟨pw,_,dz hb (by cases b<;>first | rfl | (cases hv)),?_⟩
     rw [Wq] at hlb;exact hlb
   show HR w F' O' μ (below s.N) (xX H') ft
   refine { lt:=hr.lt,known:=fun id b' cu=>?_,dw:=fun id b' cu hlb=>?_,self:=fun id h=>hr.self id (lv id h).2,own:=fun id h x hx=>⟨hr.own id (lv id h).2 x hx,fun ⟨h1,h2⟩=>(lv id h).1 (hr.dj id i (lv id h).2 h1 x hx h2)⟩,dj:=fun id cg h h'=>hr.dj id cg (lv id h).2 (lv cg h').2,z8:=fun b hb hf=>?_,wf:=fun b hb=>?_,rH:=fun b hb=>hr.rH b hb.1,pos:=hr.pos.mono (Nat.le_refl _) (fun _ h=>.inl h) fun _ _=>rfl }
   ·obtain ⟨c,hc,hv,rfl⟩:=iv cu
    have pw:id≠i:=fun e=>by
     obtain ⟨x,hx⟩:=hli
     rw [e,hx] at hc;cases hc;cases hv
    rw [hl id pw] at hc
    cases hb:aR s.H id with
    | none=>rw [hb] at hc;cases hc
    | some b=>
     rw [hb] at hc
     simp only [Option.map_some,Option.some.injEq] at hc
     subst hc
     exact hr.known id _ (dz hb (by cases b<;>first | rfl | (cases hv)))
   ·obtain ⟨c,hc,hv,rfl⟩:=iv cu
    have pw:id≠i:=fun e=>by
     obtain ⟨x,hx⟩:=hli
     rw [e,hx] at hc;cases hc;cases hv
    rw [hl id pw] at hc
    cases hb:aR s.H id with
    | none=>rw [hb] at hc;cases hc
    | some b=>
     rw [hb] at hc
     simp only [Option.map_some,Option.some.injEq] at hc
     subst hc
     obtain ⟨o,ho1,hB⟩:=hr.dw id _ (dz hb (by cases b<;>first | rfl | (cases hv))) (by rw [Wq] at hlb;exact hlb)
     refine ⟨o,ho1,?_⟩
     have up:∀ {B:kq},h_ w F μ (below s.N) (ft id) (μ id) o B→h_ w F' μ (below s.N) (ft id) (μ id) o B:=fun hB=>hB.mono (fun _ _=>rfl) hF (fun _ _=>rfl) (fun _ h=>h) (fun _ _=>rfl) (fun _ _ _=>rfl)
     cases b with
     | box l0=>
      obtain ⟨cs,q,m1,m2,m3,m4⟩:=hB
      refine ⟨cs,q,m1,m2,?_,fun k hk=>?_⟩
      ·rw [bI] at m3 ⊢;rw [GB];simpa using m3
      ·rw [bI,GB,List.length_map] at hk
       have m5:=m4 k (by rw [bI];exact hk)
       rw [dH _ _ _ hk] at m5
       rw [dH _ _ _ (by rw [GB];simpa using hk),GB]
       have e5:(l0.map (TA.qU i ⟨.sl t,xs⟩)).getD k .top=(l0.getD k .top).qU i ⟨.sl t,xs⟩:=by simp [List.getD,hk]
       rw [e5]
       exact Um hi tA hF hz _ m5
     | row t' v' xs'=>exact up hB
     | da t' v' xs' i' os=>
      have e6:(aY.da t' v' xs' i' os).dw H'=(aY.da t' v' xs' i' os).dw s.H:=qy (N:=s.N) (fun cg _=>tA cg) (ho.H id _ hb)
      rw [show aY.qU i ⟨.sl t,xs⟩ (aY.da t' v' xs' i' os)=aY.da t' v' xs' i' os from rfl,e6]
      exact up hB
     | cb x=>cases hv
     | dmap i' l'=>exact up hB
     | VT t' l'=>exact up hB
   ·rcases hf with h | h
    ·exact hr.z8 b hb.1 h
    ·exact hb.2 h
   ·rcases hb with h | ⟨h1,h2⟩
    ·exact hr.wf b h
    ·exact hr.rH b (hr.own i h1 b h2)
  ·show VR w F' μ _ ((look (s.tm.map fun p=>(p.1,p.2.qU i ⟨.sl t,xs⟩)) q).av H') _
   rw [Qq]
   exact Um hi tA hF hz _ (hs.tm q)
  ·rcases hb with h | ⟨h1,h2⟩
   ·exact .inl h
   ·exact .inr (.inr (hs.hr.own i h1 b h2))
 ·exact ⟨ho,rfl,rfl,F,O,hs,Fr.refl _ _ _ _ _⟩
theorem Un {a:Act}:∀ (L:List Nat) {s:bQ} {F O:Nat→Prop},s.ok→SR w F O μ (below s.N) s.st ft a→(GA s L).ok∧(GA s L).N=s.N∧(GA s L).nt=s.nt∧
  ∃ F' O',SR w F' O' μ (below (GA s L).N) (GA s L).st ft a∧Fr w F O μ (below s.N) w F' O' μ
 | [],s,F,O,ho,hs=>⟨ho,rfl,rfl,F,O,hs,Fr.refl _ _ _ _ _⟩
 | i::r,s,F,O,ho,hs=>by
  obtain ⟨h1,h2,h3,F1,O1,h4,h5⟩:=aes i ho hs
  obtain ⟨k1,k2,k3,F2,O2,k4,k5⟩:=Un r h1 h4
  exact ⟨k1,k2.trans h2,k3.trans h3,F2,O2,k4,h5.trans (by rw [← h2];exact k5)⟩
def Ws:TA→List Nat
 | .ow id=>[id]
 | .agg cs=>cs.flatMap fun a=>match a with
  | .ow id=>[id]
  | _=>[]
 | _=>[]
def agI:List CT→FuncId→bQ→List TA→List Nat
 | [],_,_,_=>[]
 | c::r,f,s,as=>match Nat.beq c.f f&&fits c s as with
  | true=>match c.outs.all fun a=>a.res.flat&&a.c6.all Bp.flat with
   | true=>[]
   | false=>match Gy s.H c.args as ⟨[],[]⟩ with
    | some (e1,_)=>match Gz s.H c.c6 0 e1 with
     | some (e2,_)=>e2.fz
     | none=>[]
    | none=>[]
  | false=>agI r f s as
def MS (E:Env) (bM:List CT) (o:Oper) (s:bQ):List Nat:=match o.op with
 | .call ⟨.value x,⟨args⟩,_⟩=>match s.val x with
  | .fn (.func f) first cap=>agI (MP E o.dst bM) f s ((first++args.map s.val)++cap)
  | _=>[]
 | .call ⟨.invoke x name,⟨args⟩,_⟩=>match s.val x with
  | .pe t b=>match Qj E.mt t name with
   | some f=>agI (MP E o.dst bM) f s (b::args.map s.val)
   | none=>[]
  | _=>[]
 | .store _ x y=>match s.val x with
  | .rp _ _ _=>match rpD s.H (s.val x) with
   | true=>[]
   | false=>Ws (s.val y)
  | _=>[]
 | .buildSlice t _ ⟨ps⟩=>match aep E o.dst with
  | true=>[]
  | false=>match ae8 E t with
   | some _=>ps.flatMap fun p=>Ws (s.val p.2)
   | none=>[]
 | .box _ x=>match o.dst with
  | some d=>match yk E.fz d with
   | true=>Ws (s.val x)
   | false=>[]
  | none=>[]
 | .slice _ x _ _ _=>Ws (s.val x)
 | _=>[]
def acQ (H:List (Nat×aY)) (id:Nat):Bool:=match aR H id with
 | some (.da _ _ _ _ _)=>true
 | _=>false
def rpH (H:List (Nat×aY)):TA→List Nat
 | .rp id _ _=>match acQ H id with
  | true=>[id]
  | false=>[]
 | _=>[]
def Rv (o:Oper) (s:bQ):List Nat:=match o.op with
 | .load _ x=>rpH s.H (s.val x)
 | .store _ x _=>rpH s.H (s.val x)
 | .call ⟨_,⟨args⟩,_⟩=>args.flatMap fun x=>(Ws (s.val x)).filter (acQ s.H)
 | _=>[]
def bQ.GD (s:bQ) (t:Nat) (b:Bool):bQ:={ s with tm:=(t,.d ⟨.bool,b⟩)::s.tm }
theorem Lq {s:bQ} {t:Nat} {b:Bool} (ho:s.ok):(s.GD t b).ok:=by
 refine ⟨fun u=>?_,ho.H⟩
 simp only [bQ.GD,look]
 cases e:Nat.beq u t with
 | true=>simp only [TA.wf]
 | false=>exact ho.tm u
theorem Ox {s:bQ} {t:Nat} {b:Bool} {a:Act} (hs:SR w F O μ K s.st ft a) (h:look s.tm t=.d ⟨.bool,b⟩):SR w F O μ K (s.GD t b).st ft a:=by
 refine ⟨hs.hr,hs.nt,fun u=>?_,hs.df⟩
 have:=hs.tm u
 simp only [bQ.st,bQ.GD,look] at this ⊢
 cases e:Nat.beq u t with
 | true=>rw [Nat.eq_of_beq_eq_true e,h] at this;rw [Nat.eq_of_beq_eq_true e];exact this
 | false=>exact this
theorem JT {ops:Array Oper} {s:bQ} {o:Oper} {t:Nat} {b c:Bool} (h:Qp ops s o=some (.on t b c)):look s.tm t=.d ⟨.bool,b⟩:=by
 unfold Qp at h
 split at h
 ·cases h
 ·split at h
  ·split at h
   ·rename_i b' hb
    cases h
    exact hb
   ·cases h
   ·cases h
  ·cases h
def Qr (E:Env) (bM:List CT) (o:Oper) (s:bQ) (b:Bool) (κ:bQ→Option R) (BA:TA→bQ→Option R):Option R:=
 match b with
 | true=>match GA (tv s (Rv o s)) (MS E bM o (tv s (Rv o s))) with
  | ⟨nt,N,tm,H⟩=>evT E bM o ⟨nt,N,tm,H⟩ (fun r=>κ ((bQ.next ⟨nt,N,tm,H⟩ r).put o.dst r.v)) (fun r=>BA r.v (bQ.next ⟨nt,N,tm,H⟩ r))
 | false=>κ (s.put o.dst (.lit undef))
def Lr (E:Env) (bM:List CT) (ops:Array Oper):List Oper→bQ→(bQ→Option R)→(TA→bQ→Option R)→Option R
 | [],s,κ,_=>κ s
 | o::rest,s,κ,BA=>match pc s o.dst with
  | true=>match Qp ops s o with
   | some .yes=>Qr E bM o s true (fun s=>Lr E bM ops rest s κ BA) BA
   | some .no=>Qr E bM o s false (fun s=>Lr E bM ops rest s κ BA) BA
   | some (.on t b c)=>cond b (Qr E bM o (s.GD t true) c (fun s=>Lr E bM ops rest s κ BA) BA) (Qr E bM o (s.GD t false) (!c) (fun s=>Lr E bM ops rest s κ BA) BA)
   | none=>none
  | false=>none
def Rw (n0:Nat×Nat) (s:bQ) (a:Act):Prop:=s.nt=n0.1∧∀ b,zR b∈a.defers→n0.2≤b
theorem Rw.put {n0:Nat×Nat} {s s':bQ} {a:Act} {d d':Option Nat} {v:TA} {u:Value} (h:Rw n0 s a) (e:s'.nt=s.nt):Rw n0 (s'.put d v) (a.put d' u):=by
 cases d<;>cases d'<;>exact ⟨e.trans h.1,h.2⟩
theorem Rw.to {n0:Nat×Nat} {s s':bQ} {a:Act} (h:Rw n0 s a) (e:s'.nt=s.nt):Rw n0 s' a:=⟨e.trans h.1,h.2⟩
structure Ae (w:World) (F O:Nat→Prop) (μ:Nat→Nat) (m0:Nat) (n0:Nat×Nat) (s':bQ) (a':Act) (w':World) (F' O':Nat→Prop) (bC:Nat→Nat) (b8:Nat→Nat→Prop):Prop where
 ok:s'.ok
 le:m0≤s'.N
 nt:Rw n0 s' a'
 sr:SR w' F' O' bC (below s'.N) s'.st b8 a'
 fr:Fr w F O μ (below m0) w' F' O' bC
theorem Ae.trans {m0:Nat} {n0:Nat×Nat} {s':bQ} {a':Act} (hf:Fr w F O μ (below m0) w' F' O' bC) (h:Ae w' F' O' bC m0 n0 s' a' xW Cq wx kZ b8):Ae w F O μ m0 n0 s' a' xW Cq wx kZ b8:=
 ⟨h.ok,h.le,h.nt,h.sr,hf.trans h.fr⟩
theorem Ae.refl {m0:Nat} {n0:Nat×Nat} {s:bQ} {a:Act} (ho:s.ok) (hm:m0≤s.N) (hn:Rw n0 s a) (hs:SR w F O μ (below s.N) s.st ft a):Ae w F O μ m0 n0 s a w F O μ ft:=⟨ho,hm,hn,hs,Fr.refl _ _ _ _ _⟩
theorem Yl {E:Env} {bM:List CT} {o:Oper} {s:bQ} {κ BA:cE→Option R} {z:R} (h:evT E bM o s κ BA=some z):∀ c,o.op≠.defer c:=fun c hc=>by
 simp [evT,ev0,hc] at h
theorem aa4 {E:Env} {bM:List CT} {o:Oper} {s:bQ} {κ:bQ→Option R} {BA:TA→bQ→Option R} {z:R} {m0:Nat} {n0:Nat×Nat} {a:Act} {Kn:Act→World→Prop} {Q:Exit→Act→World→Prop} (hE:xZ E bM)
  (h:evT E bM o s (fun r=>κ ((s.next r).put o.dst r.v)) (fun r=>BA r.v (s.next r))=some z) (hd:pc s o.dst=true) (ho:s.ok) (hm:m0≤s.N) (hn:Rw n0 s a) (hs:SR w F O μ (below s.N) s.st ft a)
  (hk:∀ s' a' w' F' O' bC b8,κ s'=some z→Ae w F O μ m0 n0 s' a' w' F' O' bC b8→Kn a' w')
  (hp:∀ v u s' a' w' F' O' bC b8,BA v s'=some z→v.wf s'.H s'.N→VR w' F' bC (below s'.N) (v.av s'.H) u→Ae w F O μ m0 n0 s' a' w' F' O' bC b8→Q (.panic [{ v:=u,recovered:=false }]) a' w'):o.wp E.P a w Kn Q:=by
 rcases Yh hE ho h with ⟨r,h1,h2,h3⟩ | ⟨r,h1,h2,h3⟩
 ·refine Za h1 hs fun v w' F' O' bC b8 k1 k2 k3=>?_
  have Ky:=TY hs ho h2 k2 k3
  have LF:=Lb ho h2
  have hN:((s.next r).put o.dst r.v).N=s.N+r.k:=by cases o.dst<;>rfl
  have PU:pc (s.next r) o.dst=true:=by cases Rx:o.dst<;>rw [Rx] at hd<;>exact hd
  exact hk _ _ w' F' O' bC b8 h3 ⟨Bz LF h2.v,by rw [hN];omega,hn.put rfl,by rw [hN];exact JH Ky PU k1,k3.QQ fun id (cb:id < m0)=>(show id < s.N by omega)⟩
 ·refine acm h1 hs fun v w' F' O' bC b8 k1 k2 k3=>?_
  have Ky:=TY hs ho h2 k2 k3
  have LF:=Lb ho h2
  exact hp r.v v (s.next r) a w' F' O' bC b8 h3 h2.v k1 ⟨LF,by show m0≤s.N+r.k;omega,hn.to rfl,Ky,k3.QQ fun id (cb:id < m0)=>(show id < s.N by omega)⟩
theorem acR {E:Env} {bM:List CT} {o:Oper} {s:bQ} {b:Bool} {κ:bQ→Option R} {BA:TA→bQ→Option R} {z:R} {m0:Nat} {n0:Nat×Nat} {a:Act} {ops:Array Oper} {ro:Option Nat} {Kn:Act→World→Prop} {Q:Exit→Act→World→Prop} (hE:xZ E bM) (h:Qr E bM o s b κ BA=some z)
  (hd:pc s o.dst=true) (hw:Region.wanted o (yielded ops a.tmps)=b) (ho:s.ok) (hm:m0≤s.N) (hn:Rw n0 s a) (hs:SR w F O μ (below s.N) s.st ft a)
  (hk:∀ s' a' w' F' O' bC b8,κ s'=some z→Ae w F O μ m0 n0 s' a' w' F' O' bC b8→Kn a' w')
  (hp:∀ v u s' a' w' F' O' bC b8,BA v s'=some z→v.wf s'.H s'.N→VR w' F' bC (below s'.N) (v.av s'.H) u→Ae w F O μ m0 n0 s' a' w' F' O' bC b8→Q (.panic [{ v:=u,recovered:=false }]) a' w'):
  if Region.wanted o (yielded ops a.tmps) then o.wpIn (Wr ro) 0 E.P a w Kn Q else (∀ f,o.about E.P w a.eval=some f→(Wr ro).fn f)∧Kn (a.put o.dst undef) w:=by
 cases b with
 | false=>
  rw [hw]
  simp only [Qr] at h
  simp only [Bool.false_eq_true,if_false]
  have hN:(s.put o.dst (.lit undef)).N=s.N:=by cases o.dst<;>rfl
  refine ⟨fun _ _=>trivial,?_⟩
  exact hk _ _ w F O μ ft h ⟨Bz ho (by simp only [TA.wf]),by rw [hN];exact hm,hn.put rfl,by rw [hN];exact JH hs hd (by simp only [TA.av];exact .lit _),Fr.refl _ _ _ _ _⟩
 | true=>
  rw [hw]
  obtain ⟨y1,y2,y3,_,Zc,y4⟩:=Lg (Rv o s) ho hs
  have h:evT E bM o (GA (tv s (Rv o s)) (MS E bM o (tv s (Rv o s)))) (fun r=>κ ((bQ.next (GA (tv s (Rv o s)) (MS E bM o (tv s (Rv o s)))) r).put o.dst r.v)) (fun r=>BA r.v (bQ.next (GA (tv s (Rv o s)) (MS E bM o (tv s (Rv o s)))) r))=some z:=h
  generalize tv s (Rv o s)=s0 at h y1 y2 y3 y4
  rw [← y2] at y4
  obtain ⟨z1,z2,z3,F1,O1,z4,z5⟩:=Un (MS E bM o s0) y1 y4
  rw [y2] at z2 z5
  rw [y3] at z3
  have hd:pc (GA s0 (MS E bM o s0)) o.dst=true:=by
   cases Rx:o.dst with
   | none=>rfl
   | some t=>rw [Rx] at hd;simp only [pc,z3] at hd ⊢;exact hd
  have hm':m0≤(GA s0 (MS E bM o s0)).N:=by rw [z2];exact hm
  simp only [if_true]
  have z5':=z5.QQ (K':=below m0) fun id (cb:id < m0)=>(show id < s.N by omega)
  exact Wp (Yl h) (aa4 hE h hd z1 hm' (hn.to z3) z4 (fun s' a' w' F' O' bC b8 k1 k2=>hk s' a' w' F' O' bC b8 k1 (k2.trans z5')) fun v u s' a' w' F' O' bC b8 k0 k1 k2 k3=>hp v u s' a' w' F' O' bC b8 k0 k1 k2 (k3.trans z5'))
theorem Wt {E:Env} {bM:List CT} {ops:Array Oper} {κ:bQ→Option R} {BA:TA→bQ→Option R} {z:R} {m0:Nat} {n0:Nat×Nat} {ro:Option Nat} {Q:Exit→Act→World→Prop} (hE:xZ E bM):∀ {l:List Oper} {s:bQ} {w:World} {F O:Nat→Prop} {μ:Nat→Nat} {ft:Nat→Nat→Prop} {a:Act},
  Lr E bM ops l s κ BA=some z→s.ok→m0≤s.N→Rw n0 s a→SR w F O μ (below s.N) s.st ft a→
  (∀ s' a' w' F' O' bC b8,κ s'=some z→Ae w F O μ m0 n0 s' a' w' F' O' bC b8→Q .normal a' w')→
  (∀ v u s' a' w' F' O' bC b8,BA v s'=some z→v.wf s'.H s'.N→VR w' F' bC (below s'.N) (v.av s'.H) u→Ae w F O μ m0 n0 s' a' w' F' O' bC b8→Q (.panic [{ v:=u,recovered:=false }]) a' w')→wpListIn (Wr ro) 0 E.P ops Q l a w
 | [],s,w,F,O,μ,ft,a,h,ho,hm,hn,hs,hk,hp=>by
  simp only [Lr] at h
  exact hk s a w F O μ ft h (.refl ho hm hn hs)
 | o::rest,s,w,F,O,μ,ft,a,h,ho,hm,hn,hs,hk,hp=>by
  simp only [Lr] at h
  have go:∀ (s0:bQ) (b:Bool),Qr E bM o s0 b (fun s=>Lr E bM ops rest s κ BA) BA=some z→pc s0 o.dst=true→s0.ok→m0≤s0.N→Rw n0 s0 a→SR w F O μ (below s0.N) s0.st ft a→Region.wanted o (yielded ops a.tmps)=b→wpListIn (Wr ro) 0 E.P ops Q (o::rest) a w:=by
   intro s0 b h0 hd0 ho0 hm0 Nw Mp hw0
   exact acR (ops:=ops) hE h0 hd0 hw0 ho0 hm0 Nw Mp (fun s' a' w' F' O' bC b8 QT hh=>Wt hE QT hh.ok hh.le hh.nt hh.sr
    (fun s2 a2 w2 F2 O2 Ic Nz k1 k2=>hk s2 a2 w2 F2 O2 Ic Nz k1 (k2.trans hh.fr))
    (fun v u s2 a2 w2 F2 O2 Ic Nz k1 kw k2 k3=>hp v u s2 a2 w2 F2 O2 Ic Nz k1 kw k2 (k3.trans hh.fr))) hp
  split at h
  ·rename_i hd
   split at h
   ·rename_i hw
    exact go s true h hd ho hm hn hs (pZ hs hw)
   ·rename_i hw
    exact go s false h hd ho hm hn hs (pZ hs hw)
   ·rename_i t b c hw
    have hl:=JT hw
    have hw':=pZ hs hw
    simp only at hw'
    cases b with
    | true=>
     refine go _ c h hd (Lq ho) hm (hn.to rfl) (Ox hs hl) ?_
     rw [hw'];cases c<;>rfl
    | false=>
     refine go _ (!c) h hd (Lq ho) hm (hn.to rfl) (Ox hs hl) ?_
     rw [hw'];cases c<;>rfl
   ·cases h
  ·cases h
end Go.Proofs.YtljfmaaadnoggaaGreatDoor.cX
