/- A region in the text's order. No condition. -/
import Derived.Test.YtjkbbdldmdajkaaGreatDoorVS
import Derived.TacticsIn
import Derived.OrdersIn
namespace Go.Proofs.YtjkbbdldmdajkaaGreatDoor.c5
open Go Go.RowKit
variable {w w' ss:World} {F F' zT O O' uo:Nat→Prop} {μ aZ jE:Nat→Nat} {K K' C9:Nat→Prop} {ft bX:Nat→Nat→Prop} {P:Program} {R:Type}
def Wr (r:Option Nat):Fence:={ Fence.wide with round:=r }
theorem agj:Wr none=Fence.wide:=rfl
theorem aeb {r:Option Nat} {m m':Machine}:StepsIn (Machine.fenced P (Wr r)) P m m'↔Steps P m m':=stepsIn_wide
theorem agk {r:Option Nat} (n:Nat):(Wr r).room n:=room_wide n
theorem Vl {r:Option Nat} {n:Nat} {f:FuncId} {args:Array Value} {R:Ending→World→Prop} (h:Calls P f args w R):CallsIn (Wr r) n P f args w R:=
 ⟨trivial,fun cs _=>(callsIn_wide (n:=n).2 h).2 cs (room_wide _)⟩
theorem Yc {r:Option Nat} {n:Nat} {row:String} {args:Array Value} {R:Value→World→Prop} (h:Rows P row args w R):RowsIn (Wr r) n P row args w R:=
 fun c cs _=>let ⟨v,w',q,s⟩:=h c cs;⟨v,w',q,stepsIn_wide.2 s⟩
theorem TB {r:Option Nat} {o:Oper} {a:Act} {K:Act→World→Prop} {Q:Exit→Act→World→Prop} (hd:∀ c,o.op≠.defer c) (h:o.wp P a w K Q):o.wpIn (Wr r) 0 P a w K Q:=by
 refine ⟨fun f _=>trivial,?_⟩;rw [Oper.semAt_eq _ _ _ hd];unfold Oper.wp at h;generalize (execOp a.eval o).run P w=x at h;have no:(Wr r).depth.isSome=true→1≤0:=fun h=>by cases h
 cases x with
 | ok x w'=>
  cases x<;>simp only [Oper.upon,Oper.uponIn] at h ⊢ <;>
   first
    | exact h
    | exact ⟨no,Vl h⟩
    | exact ⟨no,Yc h⟩
    | exact h.elim
 | halt x w'=>cases x<;>simp only [Oper.upon,Oper.uponIn] at h ⊢<;>exact h
mutual
def TA.pq (i:Nat) (x:cG):TA→TA
 | .ow id=>match Nat.beq id i with
  | true=>.d x
  | false=>.ow id
 | .agg cs=>.agg (Ek i x cs)
 | .rb cs off=>.rb (Ek i x cs) off
 | .ov cs=>.ov (Ek i x cs)
 | .oR t a=>.oR t (a.pq i x)
 | .fn f xs ys=>.fn f (Ek i x xs) (Ek i x ys)
 | a=>a
def Ek (i:Nat) (x:cG):List TA→List TA
 | []=>[]
 | a::r=>a.pq i x::Ek i x r
end
def aX.pq (i:Nat) (x:cG):aX→aX
 | .box l=>.box (Ek i x l)
 | b=>b
def Vm (s:bL) (i:Nat):bL:=match aS s.H i with
 | some (.row t _ xs)=>⟨s.nt,s.N,s.tm.map fun p=>(p.1,p.2.pq i ⟨.sl t,xs⟩),cA (s.H.map fun p=>(p.1,p.2.pq i ⟨.sl t,xs⟩)) [(i,none)]⟩
 | _=>s
def El (s:bL):List Nat→bL
 | []=>s
 | i::r=>El (Vm s i) r
theorem Em (i:Nat) (x:cG):∀ l:List TA,Ek i x l=l.map (TA.pq i x)
 | []=>by simp [Ek]
 | a::r=>by simp [Ek,Em i x r]
theorem NQ (i:Nat) (x:cG) (t:Nat):∀ l:List (Nat×TA),look (l.map fun p=>(p.1,p.2.pq i x)) t=(look l t).pq i x
 | []=>by simp only [List.map_nil,look,TA.pq]
 | p::r=>by
  simp only [List.map_cons,look];cases Nat.beq t p.1 with
  | true=>rfl
  | false=>exact NQ i x t r
theorem Kd (i:Nat) (x:cG) (t:Nat):∀ l:List (Nat×aX),aS (l.map fun p=>(p.1,p.2.pq i x)) t=(aS l t).map (aX.pq i x)
 | []=>rfl
 | p::r=>by
  simp only [List.map_cons,aS];cases Nat.beq t p.1 with
  | true=>rfl
  | false=>exact Kd i x t r
theorem Wz (i:Nat) (x:cG) (b:Option aX):fv (b.map (aX.pq i x))=fv b:=by
 cases b with
 | none=>rfl
 | some b=>cases b<;>rfl
mutual
theorem Rs {H H':List (Nat×aX)} {i:Nat} {t:Ty} {v:RV} {xs:List t.dn} (hi:aS H i=some (.row t v xs)) (qQ:∀ id,fv (aS H' id)=fv (aS H id)) (hF:∀ b,F b→F' b)
  (hz:∀ u,VR w F μ K (dh v.b i xs.length (ff t)) u→VR w F' μ K (cL ⟨.sl t,xs⟩) u):∀ (a:TA) {u:Value},VR w F μ K (a.av H) u→VR w F' μ K ((a.pq i ⟨.sl t,xs⟩).av H') u
 | .ow id,u,h=>by
  simp only [TA.pq];cases e:Nat.beq id i with
  | true=>
   have:=Nat.eq_of_beq_eq_true e;subst this;simp only [TA.av,hi,fv] at h;simp only [TA.av];exact hz u h
  | false=>
   simp only [TA.av,qQ id];simp only [TA.av] at h;exact h.mono (fun _ _=>rfl) hF (fun _ _=>rfl) (fun _ h=>h) fun _ _=>rfl
 | .agg cs,u,h=>by
  simp only [TA.av] at h;simp only [TA.pq,TA.av];obtain ⟨vs,rfl,wJ⟩:=h.fH;exact .qO (ER hi qQ hF hz cs wJ)
 | .rb cs off,u,h=>by
  simp only [TA.av] at h;simp only [TA.pq,TA.av];cases h with
  | rb _ _ b u hb hu hv=>
   have wJ:gZ w F μ K (di H cs) ((List.range (di H cs).length).map u):=⟨by simp,fun i hi=>by
    have:((List.range (di H cs).length).map u).getD i undef=u i:=by simp [List.getD,hi]
    rw [this];exact hv i hi⟩
   have k3:=ER hi qQ hF hz cs wJ;have kl:(di H' (Ek i ⟨.sl t,xs⟩ cs)).length=(di H cs).length:=by have:=k3.1;simpa using this
   refine .rb _ _ b u (hF b hb) (fun j hj=>hu j (by omega)) fun j hj=>?_;have k4:=k3.2 j hj;have:((List.range (di H cs).length).map u).getD j undef=u j:=by simp [List.getD,show j < (di H cs).length by omega]
   rwa [this] at k4
 | .ov cs,u,h=>by
  simp only [TA.av] at h;simp only [TA.pq,TA.av];obtain ⟨vs,rfl,wJ⟩:=h.It;exact .KR (ER hi qQ hF hz cs wJ)
 | .oR q a,u,h=>by
  simp only [TA.av] at h;simp only [TA.pq,TA.av];obtain ⟨v',rfl,hv⟩:=h.BH;exact .oR _ _ _ (Rs hi qQ hF hz a hv)
 | .fn f as bs,u,h=>by
  simp only [TA.av] at h;simp only [TA.pq,TA.av];obtain ⟨vs,us,rfl,h1,h2⟩:=h.G7;exact .ZB (ER hi qQ hF hz as h1) (ER hi qQ hF hz bs h2)
 | .top,u,h=>by simp only [TA.pq,TA.av];exact .top _
 | .lit q,u,h=>by simp only [TA.pq,TA.av] at h ⊢;exact h.mono (fun _ _=>rfl) hF (fun _ _=>rfl) (fun _ h=>h) fun _ _=>rfl
 | .d q,u,h=>by simp only [TA.pq,TA.av] at h ⊢;exact h.mono (fun _ _=>rfl) hF (fun _ _=>rfl) (fun _ h=>h) fun _ _=>rfl
 | .fb,u,h=>by simp only [TA.pq,TA.av] at h ⊢;exact h.mono (fun _ _=>rfl) hF (fun _ _=>rfl) (fun _ h=>h) fun _ _=>rfl
 | .fp q y off,u,h=>by simp only [TA.pq,TA.av] at h ⊢;exact h.mono (fun _ _=>rfl) hF (fun _ _=>rfl) (fun _ h=>h) fun _ _=>rfl
 | .bs id n e,u,h=>by simp only [TA.pq,TA.av] at h ⊢;exact h.mono (fun _ _=>rfl) hF (fun _ _=>rfl) (fun _ h=>h) fun _ _=>rfl
 | .bp id off,u,h=>by simp only [TA.pq,TA.av] at h ⊢;exact h.mono (fun _ _=>rfl) hF (fun _ _=>rfl) (fun _ h=>h) fun _ _=>rfl
 | .mp id,u,h=>by simp only [TA.pq,TA.av] at h ⊢;exact h.mono (fun _ _=>rfl) hF (fun _ _=>rfl) (fun _ h=>h) fun _ _=>rfl
 | .rp id q off,u,h=>by
  simp only [TA.pq,TA.av,qQ id] at h ⊢;exact h.mono (fun _ _=>rfl) hF (fun _ _=>rfl) (fun _ h=>h) fun _ _=>rfl
theorem ER {H H':List (Nat×aX)} {i:Nat} {t:Ty} {v:RV} {xs:List t.dn} (hi:aS H i=some (.row t v xs)) (qQ:∀ id,fv (aS H' id)=fv (aS H id)) (hF:∀ b,F b→F' b)
  (hz:∀ u,VR w F μ K (dh v.b i xs.length (ff t)) u→VR w F' μ K (cL ⟨.sl t,xs⟩) u):∀ (l:List TA) {us:List Value},gZ w F μ K (di H l) us→gZ w F' μ K (di H' (Ek i ⟨.sl t,xs⟩ l)) us
 | [],us,h=>by
  simp only [di] at h;simp only [Ek,di];rw [h.gY];exact .nil
 | a::r,us,h=>by
  simp only [di] at h;simp only [Ek,di];obtain ⟨u,q,rfl,h1,h2⟩:=h.cons_inv;exact .cons (Rs hi qQ hF hz a h1) (ER hi qQ hF hz r h2)
end
mutual
theorem Vn {H H':List (Nat×aX)} {N i:Nat} {x:cG} (qQ:∀ id,fv (aS H' id)=fv (aS H id)):∀ (a:TA),a.wf H N→(a.pq i x).wf H' N
 | .ow id,h=>by
  simp only [TA.pq];cases Nat.beq id i with
  | true=>simp only [TA.wf]
  | false=>simp only [TA.wf] at h ⊢;exact h
 | .agg cs,h=>by simp only [TA.pq,TA.wf] at h ⊢;exact B0 qQ cs h
 | .rb cs off,h=>by simp only [TA.pq,TA.wf] at h ⊢;exact B0 qQ cs h
 | .ov cs,h=>by simp only [TA.pq,TA.wf] at h ⊢;exact B0 qQ cs h
 | .oR q a,h=>by simp only [TA.pq,TA.wf] at h ⊢;exact Vn qQ a h
 | .fn f as bs,h=>by simp only [TA.pq,TA.wf] at h ⊢;exact ⟨B0 qQ as h.1,B0 qQ bs h.2⟩
 | .rp id q off,h=>by simp only [TA.pq,TA.wf,qQ id] at h ⊢;exact h
 | .top,h=>by simp only [TA.pq,TA.wf]
 | .lit q,h=>by simp only [TA.pq,TA.wf]
 | .d q,h=>by simp only [TA.pq,TA.wf]
 | .fb,h=>by simp only [TA.pq,TA.wf]
 | .fp q y off,h=>by simp only [TA.pq,TA.wf]
 | .bs id n e,h=>by simp only [TA.pq,TA.wf]
 | .bp id off,h=>by simp only [TA.pq,TA.wf]
 | .mp id,h=>by simp only [TA.pq,TA.wf]
theorem B0 {H H':List (Nat×aX)} {N i:Nat} {x:cG} (qQ:∀ id,fv (aS H' id)=fv (aS H id)):∀ (l:List TA),hU H N l→hU H' N (Ek i x l)
 | [],h=>by simp only [Ek,hU]
 | a::r,h=>by simp only [Ek,hU] at h ⊢;exact ⟨Vn qQ a h.1,B0 qQ r h.2⟩
end
theorem TC {H H':List (Nat×aX)} {i:Nat} {x:cG} (b:aX):((b.pq i x).du H').eQ=(b.du H).eQ:=by
 cases b with
 | de t v xs i' os=>simp only [aX.pq,aX.du];cases v.b<;>rfl
 | row t v xs=>rfl
 | _=>rfl
theorem ab6 {s:bL} {a:Act} (i:Nat) (ho:s.ok) (hs:SR w F O μ (below s.N) s.st ft a):(Vm s i).ok∧(Vm s i).N=s.N∧(Vm s i).nt=s.nt∧
  ∃ F' O',SR w F' O' μ (below (Vm s i).N) (Vm s i).st ft a∧Fr w F O μ (below s.N) w F' O' μ:=by
 unfold Vm;split
 ·rename_i t v xs hi
  let F':Nat→Prop:=fun b=>F b∨(s.st.H.live i∧ft i b)
  let O':Nat→Prop:=fun b=>O b∧¬ (s.st.H.live i∧ft i b)
  generalize hH':cA (s.H.map fun p=>(p.1,p.2.pq i ⟨.sl t,xs⟩)) [(i,none)]=H';have hl:∀ id,id≠i→aS H' id=(aS s.H id).map (aX.pq i ⟨.sl t,xs⟩):=fun id bZ=>by
   rw [← hH'];simp only [cA,aS,cb bZ,Kd]
  have hli:∃ x,aS H' i=some (.bZ x):=by
   rw [← hH'];simp only [cA,aS,Nat.beq_refl];exact ⟨_,rfl⟩
  have qQ:∀ id,fv (aS H' id)=fv (aS s.H id):=fun id=>by
   by_cases e:id=i
   ·subst e;rw [← hH'];simp only [cA,aS,Nat.beq_refl,Kd];exact Wz _ _ _
   ·rw [hl id e,Wz]
  have hF:∀ b,F b→F' b:=fun b h=>.inl h;have hz:∀ u,VR w F μ (below s.N) (dh v.b i xs.length (ff t)) u→VR w F' μ (below s.N) (cL ⟨.sl t,xs⟩) u:=fun u hu=>J7 hs hi hu hF (fun gC b hb=>.inr ⟨gC,hb⟩);refine ⟨⟨fun q=>?_,fun id l Ok=>?_⟩,rfl,rfl,F',O',⟨?_,hs.nt,fun q=>?_,hs.df.sub (fun b hb=>hb.1) fun b hb=>hb.imp id fun ⟨h1,h2⟩=>hs.hr.own i h1 b h2⟩,⟨rfl,rfl,rfl,Nat.le_refl _,fun _ _=>rfl,hF,fun _ _=>rfl,fun _ _ _=>rfl,fun b hb=>.inl hb.1,fun b hb=>?_⟩⟩
  ·show (look (s.tm.map fun p=>(p.1,p.2.pq i ⟨.sl t,xs⟩)) q).wf H' s.N;rw [NQ];exact Vn qQ _ (ho.tm q)
  ·have Ok:aS H' id=some l:=Ok;by_cases e:id=i
   ·obtain ⟨x,hx⟩:=hli;rw [e,hx] at Ok;cases Ok;simp only [aX.refs,hU]
   ·rw [hl id e] at Ok;cases hb:aS s.H id with
    | none=>rw [hb] at Ok;cases Ok
    | some b=>
     rw [hb] at Ok;simp only [Option.map_some,Option.some.injEq] at Ok;subst Ok;have hw:=ho.H id b hb;cases b with
     | box l0=>exact B0 qQ l0 hw
     | de t' v' ZU i' os=>exact (g0 (fun b9 _=>qQ b9) (Nat.le_refl _) _ hw).2
     | _=>simp only [aX.pq,aX.refs,hU]
  ·have hr:=hs.hr;have lv:∀ id,Hp.live (sx H') id→id≠i∧s.st.H.live id:=by
    rintro id ⟨b',ck,hlb⟩
    obtain ⟨c,hc,hv,rfl⟩:=ij ck;have oV:id≠i:=fun e=>by
     obtain ⟨x,hx⟩:=hli;rw [e,hx] at hc;cases hc;cases hv
    rw [hl id oV] at hc;cases hb:aS s.H id with
    | none=>rw [hb] at hc;cases hc
    | some b=>
     rw [hb] at hc;simp only [Option.map_some,Option.some.injEq] at hc;subst hc;refine ⟨oV,_,dx hb (by cases b<;>first | rfl | (cases hv)),?_⟩;rw [TC] at hlb;exact hlb
   show HR w F' O' μ (below s.N) (sx H') ft;refine { lt:=hr.lt,known:=fun id b' ck=>?_,du:=fun id b' ck hlb=>?_,self:=fun id h=>hr.self id (lv id h).2,own:=fun id h x hx=>⟨hr.own id (lv id h).2 x hx,fun ⟨h1,h2⟩=>(lv id h).1 (hr.dj id i (lv id h).2 h1 x hx h2)⟩,dj:=fun id b9 h h'=>hr.dj id b9 (lv id h).2 (lv b9 h').2,yl:=fun b hb hf=>?_,wf:=fun b hb=>?_,qS:=fun b hb=>hr.qS b hb.1,pos:=hr.pos.mono (Nat.le_refl _) (fun _ h=>.inl h) fun _ _=>rfl }
   ·obtain ⟨c,hc,hv,rfl⟩:=ij ck;have oV:id≠i:=fun e=>by
     obtain ⟨x,hx⟩:=hli;rw [e,hx] at hc;cases hc;cases hv
    rw [hl id oV] at hc;cases hb:aS s.H id with
    | none=>rw [hb] at hc;cases hc
    | some b=>
     rw [hb] at hc;simp only [Option.map_some,Option.some.injEq] at hc;subst hc;exact hr.known id _ (dx hb (by cases b<;>first | rfl | (cases hv)))
   ·obtain ⟨c,hc,hv,rfl⟩:=ij ck;have oV:id≠i:=fun e=>by
     obtain ⟨x,hx⟩:=hli;rw [e,hx] at hc;cases hc;cases hv
    rw [hl id oV] at hc;cases hb:aS s.H id with
    | none=>rw [hb] at hc;cases hc
    | some b=>
     rw [hb] at hc;simp only [Option.map_some,Option.some.injEq] at hc;subst hc;obtain ⟨o,ho1,hB⟩:=hr.du id _ (dx hb (by cases b<;>first | rfl | (cases hv))) (by rw [TC] at hlb;exact hlb);refine ⟨o,ho1,?_⟩;have up:∀ {B:jz},hP w F μ (below s.N) (ft id) (μ id) o B→hP w F' μ (below s.N) (ft id) (μ id) o B:=fun hB=>hB.mono (fun _ _=>rfl) hF (fun _ _=>rfl) (fun _ h=>h) (fun _ _=>rfl) (fun _ _ _=>rfl);cases b with
     | box l0=>
      obtain ⟨cs,q,m1,m2,m3,m4⟩:=hB;refine ⟨cs,q,m1,m2,?_,fun k hk=>?_⟩
      ·rw [bC] at m3 ⊢;rw [Em];simpa using m3
      ·rw [bC,Em,List.length_map] at hk;have m5:=m4 k (by rw [bC];exact hk);rw [dq _ _ _ hk] at m5;rw [dq _ _ _ (by rw [Em];simpa using hk),Em];have e5:(l0.map (TA.pq i ⟨.sl t,xs⟩)).getD k .top=(l0.getD k .top).pq i ⟨.sl t,xs⟩:=by simp [List.getD,hk]
       rw [e5];exact Rs hi qQ hF hz _ m5
     | row t' v' ZU=>exact up hB
     | de t' v' ZU i' os=>
      have e6:(aX.de t' v' ZU i' os).du H'=(aX.de t' v' ZU i' os).du s.H:=p4 (N:=s.N) (fun b9 _=>qQ b9) (ho.H id _ hb);rw [show aX.pq i ⟨.sl t,xs⟩ (aX.de t' v' ZU i' os)=aX.de t' v' ZU i' os from rfl,e6];exact up hB
     | bZ x=>cases hv
     | dmap i' l'=>exact up hB
     | SX t' l'=>exact up hB
   ·rcases hf with h | h
    ·exact hr.yl b hb.1 h
    ·exact hb.2 h
   ·rcases hb with h | ⟨h1,h2⟩
    ·exact hr.wf b h
    ·exact hr.qS b (hr.own i h1 b h2)
  ·show VR w F' μ _ ((look (s.tm.map fun p=>(p.1,p.2.pq i ⟨.sl t,xs⟩)) q).av H') _;rw [NQ];exact Rs hi qQ hF hz _ (hs.tm q)
  ·rcases hb with h | ⟨h1,h2⟩
   ·exact .inl h
   ·exact .inr (.inr (hs.hr.own i h1 b h2))
 ·exact ⟨ho,rfl,rfl,F,O,hs,Fr.refl _ _ _ _ _⟩
theorem Rt {a:Act}:∀ (L:List Nat) {s:bL} {F O:Nat→Prop},s.ok→SR w F O μ (below s.N) s.st ft a→(El s L).ok∧(El s L).N=s.N∧(El s L).nt=s.nt∧
  ∃ F' O',SR w F' O' μ (below (El s L).N) (El s L).st ft a∧Fr w F O μ (below s.N) w F' O' μ
 | [],s,F,O,ho,hs=>⟨ho,rfl,rfl,F,O,hs,Fr.refl _ _ _ _ _⟩
 | i::r,s,F,O,ho,hs=>by
  obtain ⟨h1,h2,h3,F1,O1,h4,h5⟩:=ab6 i ho hs;obtain ⟨k1,k2,k3,F2,O2,k4,k5⟩:=Rt r h1 h4;exact ⟨k1,k2.trans h2,k3.trans h3,F2,O2,k4,h5.trans (by rw [← h2];exact k5)⟩
def TD:TA→List Nat
 | .ow id=>[id]
 | .agg cs=>cs.flatMap fun a=>match a with
  | .ow id=>[id]
  | _=>[]
 | _=>[]
def aec:List CT→FuncId→bL→List TA→List Nat
 | [],_,_,_=>[]
 | c::r,f,s,as=>match Nat.beq c.f f&&fits c s as with
  | true=>match c.outs.all fun a=>a.res.flat&&a.cE.all Bp.flat with
   | true=>[]
   | false=>match BY s.H c.args as ⟨[],[]⟩ with
    | some (e1,_)=>match Ei s.H c.cE 0 e1 with
     | some (e2,_)=>e2.fz
     | none=>[]
    | none=>[]
  | false=>aec r f s as
def Ke (E:Env) (bJ:List CT) (o:Oper) (s:bL):List Nat:=match o.op with
 | .call ⟨.value x,⟨args⟩,_⟩=>match s.val x with
  | .fn (.func f) first cap=>aec (Kb E o.dst bJ) f s ((first++args.map s.val)++cap)
  | _=>[]
 | .call ⟨.invoke x name,⟨args⟩,_⟩=>match s.val x with
  | .oR t b=>match NJ E.mt t name with
   | some f=>aec (Kb E o.dst bJ) f s (b::args.map s.val)
   | none=>[]
  | _=>[]
 | .store _ x y=>match s.val x with
  | .rp _ _ _=>match rpD s.H (s.val x) with
   | true=>[]
   | false=>TD (s.val y)
  | _=>[]
 | .buildSlice t _ ⟨ps⟩=>match ab4 E o.dst with
  | true=>[]
  | false=>match acN E t with
   | some _=>ps.flatMap fun p=>TD (s.val p.2)
   | none=>[]
 | .box _ x=>match o.dst with
  | some d=>match vt E.fz d with
   | true=>TD (s.val x)
   | false=>[]
  | none=>[]
 | .slice _ x _ _ none=>TD (s.val x)
 | _=>[]
def aai (H:List (Nat×aX)) (id:Nat):Bool:=match aS H id with
 | some (.de _ _ _ _ _)=>true
 | _=>false
def rpH (H:List (Nat×aX)):TA→List Nat
 | .rp id _ _=>match aai H id with
  | true=>[id]
  | false=>[]
 | _=>[]
def ahh (l:List Nat):Option Nat→Bool
 | some d=>vt l d
 | none=>false
def OZ (E:Env) (o:Oper) (s:bL):List Nat:=match o.op with
 | .load _ x=>rpH s.H (s.val x)
 | .store _ x _=>rpH s.H (s.val x)
 | .call ⟨_,⟨args⟩,_⟩=>match ahh E.fz o.dst with
  | true=>[]
  | false=>args.flatMap fun x=>(TD (s.val x)).filter (aai s.H)
 | _=>[]
def bL.En (s:bL) (t:Nat) (b:Bool):bL:={ s with tm:=(t,.d ⟨.bool,b⟩)::s.tm }
theorem IV {s:bL} {t:Nat} {b:Bool} (ho:s.ok):(s.En t b).ok:=by
 refine ⟨fun u=>?_,ho.H⟩;simp only [bL.En,look];cases e:Nat.beq u t with
 | true=>simp only [TA.wf]
 | false=>exact ho.tm u
theorem LW {s:bL} {t:Nat} {b:Bool} {a:Act} (hs:SR w F O μ K s.st ft a) (h:look s.tm t=.d ⟨.bool,b⟩):SR w F O μ K (s.En t b).st ft a:=by
 refine ⟨hs.hr,hs.nt,fun u=>?_,hs.df⟩;have:=hs.tm u;simp only [bL.st,bL.En,look] at this ⊢;cases e:Nat.beq u t with
 | true=>rw [Nat.eq_of_beq_eq_true e,h] at this;rw [Nat.eq_of_beq_eq_true e];exact this
 | false=>exact this
theorem Hn {ops:Array Oper} {s:bL} {o:Oper} {t:Nat} {b c:Bool} (h:K4 ops s o=some (.on t b c)):look s.tm t=.d ⟨.bool,b⟩:=by
 unfold K4 at h;split at h
 ·cases h
 ·split at h
  ·split at h
   ·rename_i b' hb;cases h;exact hb
   ·cases h
   ·cases h
  ·cases h
def NR (E:Env) (bJ:List CT) (o:Oper) (s:bL) (b:Bool) (κ:bL→Option R) (wL:TA→bL→Option R):Option R:=
 match b with
 | true=>match El (pw s (OZ E o s)) (Ke E bJ o (pw s (OZ E o s))) with
  | ⟨nt,N,tm,H⟩=>evT E bJ o ⟨nt,N,tm,H⟩ (fun r=>κ ((bL.next ⟨nt,N,tm,H⟩ r).put o.dst r.v)) (fun r=>wL r.v (bL.next ⟨nt,N,tm,H⟩ r))
 | false=>κ (s.put o.dst (.lit undef))
def Eo (E:Env) (bJ:List CT) (ops:Array Oper):List Oper→bL→(bL→Option R)→(TA→bL→Option R)→Option R
 | [],s,κ,_=>κ s
 | o::rest,s,κ,wL=>match oL s o.dst with
  | true=>match K4 ops s o with
   | some .yes=>NR E bJ o s true (fun s=>Eo E bJ ops rest s κ wL) wL
   | some .no=>NR E bJ o s false (fun s=>Eo E bJ ops rest s κ wL) wL
   | some (.on t b c)=>cond b (NR E bJ o (s.En t true) c (fun s=>Eo E bJ ops rest s κ wL) wL) (NR E bJ o (s.En t false) (!c) (fun s=>Eo E bJ ops rest s κ wL) wL)
   | none=>none
  | false=>none
structure N0 where
 nt:Nat
 lo:Nat
 nf:Bool
 base:List Deferred
def LX (n0:N0) (s:bL) (a:Act):Prop:=s.nt=n0.nt∧(∀ b,mB b∈a.defers→n0.lo≤b∧n0.nf=false)∧wk a.defers=n0.base
theorem LX.put {n0:N0} {s s':bL} {a:Act} {d d':Option Nat} {v:TA} {u:Value} (h:LX n0 s a) (e:s'.nt=s.nt):LX n0 (s'.put d v) (a.put d' u):=by
 cases d<;>cases d'<;>exact ⟨e.trans h.1,h.2⟩
theorem LX.to {n0:N0} {s s':bL} {a:Act} (h:LX n0 s a) (e:s'.nt=s.nt):LX n0 s' a:=⟨e.trans h.1,h.2⟩
structure tL (w:World) (F O:Nat→Prop) (μ:Nat→Nat) (m0:Nat) (n0:N0) (s':bL) (a':Act) (w':World) (F' O':Nat→Prop) (aZ:Nat→Nat) (bX:Nat→Nat→Prop):Prop where
 ok:s'.ok
 le:m0≤s'.N
 nt:LX n0 s' a'
 sr:SR w' F' O' aZ (below s'.N) s'.st bX a'
 fr:Fr w F O μ (below m0) w' F' O' aZ
theorem tL.trans {m0:Nat} {n0:N0} {s':bL} {a':Act} (hf:Fr w F O μ (below m0) w' F' O' aZ) (h:tL w' F' O' aZ m0 n0 s' a' ss zT uo jE bX):tL w F O μ m0 n0 s' a' ss zT uo jE bX:=
 ⟨h.ok,h.le,h.nt,h.sr,hf.trans h.fr⟩
theorem tL.refl {m0:Nat} {n0:N0} {s:bL} {a:Act} (ho:s.ok) (hm:m0≤s.N) (hn:LX n0 s a) (hs:SR w F O μ (below s.N) s.st ft a):tL w F O μ m0 n0 s a w F O μ ft:=⟨ho,hm,hn,hs,Fr.refl _ _ _ _ _⟩
theorem Vo {E:Env} {bJ:List CT} {o:Oper} {s:bL} {κ wL:cu→Option R} {z:R} (h:evT E bJ o s κ wL=some z):∀ c,o.op≠.defer c:=fun c hc=>by
 simp [evT,ev0,hc] at h
theorem Ye {E:Env} {bJ:List CT} {o:Oper} {s:bL} {κ:bL→Option R} {wL:TA→bL→Option R} {z:R} {m0:Nat} {n0:N0} {a:Act} {Kn:Act→World→Prop} {Q:Exit→Act→World→Prop} (hE:px E bJ)
  (h:evT E bJ o s (fun r=>κ ((s.next r).put o.dst r.v)) (fun r=>wL r.v (s.next r))=some z) (hd:oL s o.dst=true) (ho:s.ok) (hm:m0≤s.N) (hn:LX n0 s a) (hs:SR w F O μ (below s.N) s.st ft a)
  (hk:∀ s' a' w' F' O' aZ bX,κ s'=some z→tL w F O μ m0 n0 s' a' w' F' O' aZ bX→Kn a' w')
  (hp:∀ v u s' a' w' F' O' aZ bX,wL v s'=some z→v.wf s'.H s'.N→VR w' F' aZ (below s'.N) (v.av s'.H) u→tL w F O μ m0 n0 s' a' w' F' O' aZ bX→Q (.panic [{ v:=u,recovered:=false }]) a' w'):o.wp E.P a w Kn Q:=by
 rcases Vk hE ho h with ⟨r,h1,h2,h3⟩ | ⟨r,h1,h2,h3⟩
 ·refine Wc h1 hs fun v w' F' O' aZ bX k1 k2 k3=>?_;have H3:=LM hs ho h2 k2 k3;have I_:=EL ho h2;have hN:((s.next r).put o.dst r.v).N=s.N+r.k:=by cases o.dst<;>rfl
  have Nf:oL (s.next r) o.dst=true:=by cases Ly:o.dst<;>rw [Ly] at hd<;>exact hd
  exact hk _ _ w' F' O' aZ bX h3 ⟨zM I_ h2.v,by rw [hN];omega,hn.put rfl,by rw [hN];exact Ha H3 Nf k1,k3.LH fun id (bZ:id < m0)=>(show id < s.N by omega)⟩
 ·refine ZO h1 hs fun v w' F' O' aZ bX k1 k2 k3=>?_;have H3:=LM hs ho h2 k2 k3;have I_:=EL ho h2;exact hp r.v v (s.next r) a w' F' O' aZ bX h3 h2.v k1 ⟨I_,by show m0≤s.N+r.k;omega,hn.to rfl,H3,k3.LH fun id (bZ:id < m0)=>(show id < s.N by omega)⟩
theorem aaj {E:Env} {bJ:List CT} {o:Oper} {s:bL} {b:Bool} {κ:bL→Option R} {wL:TA→bL→Option R} {z:R} {m0:Nat} {n0:N0} {a:Act} {ops:Array Oper} {ro:Option Nat} {Kn:Act→World→Prop} {Q:Exit→Act→World→Prop} (hE:px E bJ) (h:NR E bJ o s b κ wL=some z)
  (hd:oL s o.dst=true) (hw:Region.wanted o (yielded ops a.tmps)=b) (ho:s.ok) (hm:m0≤s.N) (hn:LX n0 s a) (hs:SR w F O μ (below s.N) s.st ft a)
  (hk:∀ s' a' w' F' O' aZ bX,κ s'=some z→tL w F O μ m0 n0 s' a' w' F' O' aZ bX→Kn a' w')
  (hp:∀ v u s' a' w' F' O' aZ bX,wL v s'=some z→v.wf s'.H s'.N→VR w' F' aZ (below s'.N) (v.av s'.H) u→tL w F O μ m0 n0 s' a' w' F' O' aZ bX→Q (.panic [{ v:=u,recovered:=false }]) a' w'):
  if Region.wanted o (yielded ops a.tmps) then o.wpIn (Wr ro) 0 E.P a w Kn Q else (∀ f,o.about E.P w a.eval=some f→(Wr ro).fn f)∧Kn (a.put o.dst undef) w:=by
 cases b with
 | false=>
  rw [hw];simp only [NR] at h;simp only [Bool.false_eq_true,if_false];have hN:(s.put o.dst (.lit undef)).N=s.N:=by cases o.dst<;>rfl
  refine ⟨fun _ _=>trivial,?_⟩;exact hk _ _ w F O μ ft h ⟨zM ho (by simp only [TA.wf]),by rw [hN];exact hm,hn.put rfl,by rw [hN];exact Ha hs hd (by simp only [TA.av];exact .lit _),Fr.refl _ _ _ _ _⟩
 | true=>
  rw [hw];obtain ⟨y1,y2,y3,_,S3,y4⟩:=Eh (OZ E o s) ho hs;have h:evT E bJ o (El (pw s (OZ E o s)) (Ke E bJ o (pw s (OZ E o s)))) (fun r=>κ ((bL.next (El (pw s (OZ E o s)) (Ke E bJ o (pw s (OZ E o s)))) r).put o.dst r.v)) (fun r=>wL r.v (bL.next (El (pw s (OZ E o s)) (Ke E bJ o (pw s (OZ E o s)))) r))=some z:=h;generalize pw s (OZ E o s)=s0 at h y1 y2 y3 y4;rw [← y2] at y4;obtain ⟨z1,z2,z3,F1,O1,z4,z5⟩:=Rt (Ke E bJ o s0) y1 y4;rw [y2] at z2 z5;rw [y3] at z3;have hd:oL (El s0 (Ke E bJ o s0)) o.dst=true:=by
   cases Ly:o.dst with
   | none=>rfl
   | some t=>rw [Ly] at hd;simp only [oL,z3] at hd ⊢;exact hd
  have XS:m0≤(El s0 (Ke E bJ o s0)).N:=by rw [z2];exact hm
  simp only [if_true];have z5':=z5.LH (K':=below m0) fun id (bZ:id < m0)=>(show id < s.N by omega);exact TB (Vo h) (Ye hE h hd z1 XS (hn.to z3) z4 (fun s' a' w' F' O' aZ bX k1 k2=>hk s' a' w' F' O' aZ bX k1 (k2.trans z5')) fun v u s' a' w' F' O' aZ bX k0 k1 k2 k3=>hp v u s' a' w' F' O' aZ bX k0 k1 k2 (k3.trans z5'))
theorem Kf {E:Env} {bJ:List CT} {ops:Array Oper} {κ:bL→Option R} {wL:TA→bL→Option R} {z:R} {m0:Nat} {n0:N0} {ro:Option Nat} {Q:Exit→Act→World→Prop} {tl:List Oper} (hE:px E bJ):∀ {l:List Oper} {s:bL} {w:World} {F O:Nat→Prop} {μ:Nat→Nat} {ft:Nat→Nat→Prop} {a:Act},
  Eo E bJ ops l s κ wL=some z→s.ok→m0≤s.N→LX n0 s a→SR w F O μ (below s.N) s.st ft a→
  (∀ s' a' w' F' O' aZ bX,κ s'=some z→tL w F O μ m0 n0 s' a' w' F' O' aZ bX→wpListIn (Wr ro) 0 E.P ops Q tl a' w')→
  (∀ v u s' a' w' F' O' aZ bX,wL v s'=some z→v.wf s'.H s'.N→VR w' F' aZ (below s'.N) (v.av s'.H) u→tL w F O μ m0 n0 s' a' w' F' O' aZ bX→Q (.panic [{ v:=u,recovered:=false }]) a' w')→wpListIn (Wr ro) 0 E.P ops Q (l++tl) a w
 | [],s,w,F,O,μ,ft,a,h,ho,hm,hn,hs,hk,hp=>by
  simp only [Eo] at h;exact hk s a w F O μ ft h (.refl ho hm hn hs)
 | o::rest,s,w,F,O,μ,ft,a,h,ho,hm,hn,hs,hk,hp=>by
  simp only [Eo] at h;have go:∀ (s0:bL) (b:Bool),NR E bJ o s0 b (fun s=>Eo E bJ ops rest s κ wL) wL=some z→oL s0 o.dst=true→s0.ok→m0≤s0.N→LX n0 s0 a→SR w F O μ (below s0.N) s0.st ft a→Region.wanted o (yielded ops a.tmps)=b→wpListIn (Wr ro) 0 E.P ops Q (o::rest++tl) a w:=by
   intro s0 b h0 hd0 ho0 hm0 Jb GN hw0;exact aaj (ops:=ops) hE h0 hd0 hw0 ho0 hm0 Jb GN (fun s' a' w' F' O' aZ bX Ho hh=>Kf hE Ho hh.ok hh.le hh.nt hh.sr
    (fun s2 a2 w2 F2 O2 zl EJ k1 k2=>hk s2 a2 w2 F2 O2 zl EJ k1 (k2.trans hh.fr))
    (fun v u s2 a2 w2 F2 O2 zl EJ k1 kw k2 k3=>hp v u s2 a2 w2 F2 O2 zl EJ k1 kw k2 (k3.trans hh.fr))) hp
  split at h
  ·rename_i hd;split at h
   ·rename_i hw;exact go s true h hd ho hm hn hs (nN hs hw)
   ·rename_i hw;exact go s false h hd ho hm hn hs (nN hs hw)
   ·rename_i t b c hw;have hl:=Hn hw;have XK:=nN hs hw;simp only at XK;cases b with
    | true=>
     refine go _ c h hd (IV ho) hm (hn.to rfl) (LW hs hl) ?_;rw [XK];cases c<;>rfl
    | false=>
     refine go _ (!c) h hd (IV ho) hm (hn.to rfl) (LW hs hl) ?_;rw [XK];cases c<;>rfl
   ·cases h
  ·cases h
theorem aak {E:Env} {bJ:List CT} {ops:Array Oper} {κ:bL→Option R} {wL:TA→bL→Option R} {z:R} {m0:Nat} {n0:N0} {ro:Option Nat} {Q:Exit→Act→World→Prop} (hE:px E bJ):∀ {l:List Oper} {s:bL} {w:World} {F O:Nat→Prop} {μ:Nat→Nat} {ft:Nat→Nat→Prop} {a:Act},
  Eo E bJ ops l s κ wL=some z→s.ok→m0≤s.N→LX n0 s a→SR w F O μ (below s.N) s.st ft a→
  (∀ s' a' w' F' O' aZ bX,κ s'=some z→tL w F O μ m0 n0 s' a' w' F' O' aZ bX→Q .normal a' w')→
  (∀ v u s' a' w' F' O' aZ bX,wL v s'=some z→v.wf s'.H s'.N→VR w' F' aZ (below s'.N) (v.av s'.H) u→tL w F O μ m0 n0 s' a' w' F' O' aZ bX→Q (.panic [{ v:=u,recovered:=false }]) a' w')→wpListIn (Wr ro) 0 E.P ops Q l a w:=by
 intro l s w F O μ ft a h ho hm hn hs hk hp;have:=Kf (tl:=[]) (ro:=ro) (Q:=Q) hE h ho hm hn hs hk hp;rwa [List.append_nil] at this
end Go.Proofs.YtjkbbdldmdajkaaGreatDoor.c5
