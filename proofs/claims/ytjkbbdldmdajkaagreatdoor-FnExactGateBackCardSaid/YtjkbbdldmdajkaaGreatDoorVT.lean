/- A region in the text's order. No condition. -/
import Derived.Test.YtjkbbdldmdajkaaGreatDoorVS
import Derived.TacticsIn
import Derived.OrdersIn
namespace Go.Proofs.YtjkbbdldmdajkaaGreatDoor.c_
open Go Go.RowKit
variable {w w' xh:World} {F F' Bn O O' vW:Nat→Prop} {μ bD lF:Nat→Nat} {K K' EB:Nat→Prop} {ft bY:Nat→Nat→Prop} {P:Program} {R:Type}
def Wr (r:Option Nat):Fence:={ Fence.wide with round:=r }
theorem agl:Wr none=Fence.wide:=rfl
theorem aep {r:Option Nat} {m m':Machine}:StepsIn (Machine.fenced P (Wr r)) P m m'↔Steps P m m':=stepsIn_wide
theorem agm {r:Option Nat} (n:Nat):(Wr r).room n:=room_wide n
theorem VM {r:Option Nat} {n:Nat} {f:FuncId} {args:Array Value} {R:Ending→World→Prop} (h:Calls P f args w R):CallsIn (Wr r) n P f args w R:=
 ⟨trivial,fun cs _=>(callsIn_wide (n:=n).2 h).2 cs (room_wide _)⟩
theorem Yx {r:Option Nat} {n:Nat} {row:String} {args:Array Value} {R:Value→World→Prop} (h:Rows P row args w R):RowsIn (Wr r) n P row args w R:=
 fun c cs _=>let ⟨v,w',q,s⟩:=h c cs;⟨v,w',q,stepsIn_wide.2 s⟩
theorem T5 {r:Option Nat} {o:Oper} {a:Act} {K:Act→World→Prop} {Q:Exit→Act→World→Prop} (hd:∀ c,o.op≠.defer c) (h:o.wp P a w K Q):o.wpIn (Wr r) 0 P a w K Q:=by
 refine ⟨fun f _=>trivial,?_⟩;rw [Oper.semAt_eq _ _ _ hd];unfold Oper.wp at h;generalize (execOp a.eval o).run P w=x at h;have no:(Wr r).depth.isSome=true→1≤0:=fun h=>by cases h
 cases x with
 | ok x w'=>
  cases x<;>simp only [Oper.upon,Oper.uponIn] at h ⊢ <;>
   first
    | exact h
    | exact ⟨no,VM h⟩
    | exact ⟨no,Yx h⟩
    | exact h.elim
 | halt x w'=>cases x<;>simp only [Oper.upon,Oper.uponIn] at h ⊢<;>exact h
mutual
def TA.re (i:Nat) (x:cN):TA→TA
 | .ow id=>match Nat.beq id i with
  | true=>.d x
  | false=>.ow id
 | .agg cs=>.agg (HZ i x cs)
 | .nO cs=>.nO (HZ i x cs)
 | .pJ t a=>.pJ t (a.re i x)
 | .fn f xs ys=>.fn f (HZ i x xs) (HZ i x ys)
 | a=>a
def HZ (i:Nat) (x:cN):List TA→List TA
 | []=>[]
 | a::r=>a.re i x::HZ i x r
end
def aY.re (i:Nat) (x:cN):aY→aY
 | .box l=>.box (HZ i x l)
 | b=>b
def VN (s:bP) (i:Nat):bP:=match aT s.H i with
 | some (.row t _ xs)=>⟨s.nt,s.N,s.tm.map fun p=>(p.1,p.2.re i ⟨.sl t,xs⟩),cD (s.H.map fun p=>(p.1,p.2.re i ⟨.sl t,xs⟩)) [(i,none)]⟩
 | _=>s
def EV (s:bP):List Nat→bP
 | []=>s
 | i::r=>EV (VN s i) r
theorem EW (i:Nat) (x:cN):∀ l:List TA,HZ i x l=l.map (TA.re i x)
 | []=>by simp [HZ]
 | a::r=>by simp [HZ,EW i x r]
theorem On (i:Nat) (x:cN) (t:Nat):∀ l:List (Nat×TA),look (l.map fun p=>(p.1,p.2.re i x)) t=(look l t).re i x
 | []=>by simp only [List.map_nil,look,TA.re]
 | p::r=>by
  simp only [List.map_cons,look];cases Nat.beq t p.1 with
  | true=>rfl
  | false=>exact On i x t r
theorem KO (i:Nat) (x:cN) (t:Nat):∀ l:List (Nat×aY),aT (l.map fun p=>(p.1,p.2.re i x)) t=(aT l t).map (aY.re i x)
 | []=>rfl
 | p::r=>by
  simp only [List.map_cons,aT];cases Nat.beq t p.1 with
  | true=>rfl
  | false=>exact KO i x t r
theorem WS (i:Nat) (x:cN) (b:Option aY):fG (b.map (aY.re i x))=fG b:=by
 cases b with
 | none=>rfl
 | some b=>cases b<;>rfl
mutual
theorem R1 {H H':List (Nat×aY)} {i:Nat} {t:Ty} {v:RV} {xs:List t.dn} (hi:aT H i=some (.row t v xs)) (sZ:∀ id,fG (aT H' id)=fG (aT H id)) (hF:∀ b,F b→F' b)
  (hz:∀ u,VR w F μ K (du v.b i xs.length (fx t)) u→VR w F' μ K (cT ⟨.sl t,xs⟩) u):∀ (a:TA) {u:Value},VR w F μ K (a.av H) u→VR w F' μ K ((a.re i ⟨.sl t,xs⟩).av H') u
 | .ow id,u,h=>by
  simp only [TA.re];cases e:Nat.beq id i with
  | true=>
   have:=Nat.eq_of_beq_eq_true e;subst this;simp only [TA.av,hi,fG] at h;simp only [TA.av];exact hz u h
  | false=>
   simp only [TA.av,sZ id];simp only [TA.av] at h;exact h.mono (fun _ _=>rfl) hF (fun _ _=>rfl) (fun _ h=>h) fun _ _=>rfl
 | .agg cs,u,h=>by
  simp only [TA.av] at h;simp only [TA.re,TA.av];obtain ⟨vs,rfl,BM⟩:=h.fS;exact .rO (Jq hi sZ hF hz cs BM)
 | .nO cs,u,h=>by
  simp only [TA.av] at h;simp only [TA.re,TA.av];obtain ⟨vs,rfl,BM⟩:=h.IZ;exact .Lr (Jq hi sZ hF hz cs BM)
 | .pJ q a,u,h=>by
  simp only [TA.av] at h;simp only [TA.re,TA.av];obtain ⟨v',rfl,hv⟩:=h.Cn;exact .pJ _ _ _ (R1 hi sZ hF hz a hv)
 | .fn f as bs,u,h=>by
  simp only [TA.av] at h;simp only [TA.re,TA.av];obtain ⟨vs,us,rfl,h1,h2⟩:=h.Ko;exact .aad (Jq hi sZ hF hz as h1) (Jq hi sZ hF hz bs h2)
 | .top,u,h=>by simp only [TA.re,TA.av];exact .top _
 | .lit q,u,h=>by simp only [TA.re,TA.av] at h ⊢;exact h.mono (fun _ _=>rfl) hF (fun _ _=>rfl) (fun _ h=>h) fun _ _=>rfl
 | .d q,u,h=>by simp only [TA.re,TA.av] at h ⊢;exact h.mono (fun _ _=>rfl) hF (fun _ _=>rfl) (fun _ h=>h) fun _ _=>rfl
 | .fA,u,h=>by simp only [TA.re,TA.av] at h ⊢;exact h.mono (fun _ _=>rfl) hF (fun _ _=>rfl) (fun _ h=>h) fun _ _=>rfl
 | .fp q y off,u,h=>by simp only [TA.re,TA.av] at h ⊢;exact h.mono (fun _ _=>rfl) hF (fun _ _=>rfl) (fun _ h=>h) fun _ _=>rfl
 | .bs id n e,u,h=>by simp only [TA.re,TA.av] at h ⊢;exact h.mono (fun _ _=>rfl) hF (fun _ _=>rfl) (fun _ h=>h) fun _ _=>rfl
 | .bp id off,u,h=>by simp only [TA.re,TA.av] at h ⊢;exact h.mono (fun _ _=>rfl) hF (fun _ _=>rfl) (fun _ h=>h) fun _ _=>rfl
 | .mp id,u,h=>by simp only [TA.re,TA.av] at h ⊢;exact h.mono (fun _ _=>rfl) hF (fun _ _=>rfl) (fun _ h=>h) fun _ _=>rfl
 | .rp id q off,u,h=>by
  simp only [TA.re,TA.av,sZ id] at h ⊢;exact h.mono (fun _ _=>rfl) hF (fun _ _=>rfl) (fun _ h=>h) fun _ _=>rfl
theorem Jq {H H':List (Nat×aY)} {i:Nat} {t:Ty} {v:RV} {xs:List t.dn} (hi:aT H i=some (.row t v xs)) (sZ:∀ id,fG (aT H' id)=fG (aT H id)) (hF:∀ b,F b→F' b)
  (hz:∀ u,VR w F μ K (du v.b i xs.length (fx t)) u→VR w F' μ K (cT ⟨.sl t,xs⟩) u):∀ (l:List TA) {us:List Value},iU w F μ K (er H l) us→iU w F' μ K (er H' (HZ i ⟨.sl t,xs⟩ l)) us
 | [],us,h=>by
  simp only [er] at h;simp only [HZ,er];rw [h.iJ];exact .nil
 | a::r,us,h=>by
  simp only [er] at h;simp only [HZ,er];obtain ⟨u,q,rfl,h1,h2⟩:=h.cons_inv;exact .cons (R1 hi sZ hF hz a h1) (Jq hi sZ hF hz r h2)
end
mutual
theorem VO {H H':List (Nat×aY)} {N i:Nat} {x:cN} (sZ:∀ id,fG (aT H' id)=fG (aT H id)):∀ (a:TA),a.wf H N→(a.re i x).wf H' N
 | .ow id,h=>by
  simp only [TA.re];cases Nat.beq id i with
  | true=>simp only [TA.wf]
  | false=>simp only [TA.wf] at h ⊢;exact h
 | .agg cs,h=>by simp only [TA.re,TA.wf] at h ⊢;exact Fq sZ cs h
 | .nO cs,h=>by simp only [TA.re,TA.wf] at h ⊢;exact Fq sZ cs h
 | .pJ q a,h=>by simp only [TA.re,TA.wf] at h ⊢;exact VO sZ a h
 | .fn f as bs,h=>by simp only [TA.re,TA.wf] at h ⊢;exact ⟨Fq sZ as h.1,Fq sZ bs h.2⟩
 | .rp id q off,h=>by simp only [TA.re,TA.wf,sZ id] at h ⊢;exact h
 | .top,h=>by simp only [TA.re,TA.wf]
 | .lit q,h=>by simp only [TA.re,TA.wf]
 | .d q,h=>by simp only [TA.re,TA.wf]
 | .fA,h=>by simp only [TA.re,TA.wf]
 | .fp q y off,h=>by simp only [TA.re,TA.wf]
 | .bs id n e,h=>by simp only [TA.re,TA.wf]
 | .bp id off,h=>by simp only [TA.re,TA.wf]
 | .mp id,h=>by simp only [TA.re,TA.wf]
theorem Fq {H H':List (Nat×aY)} {N i:Nat} {x:cN} (sZ:∀ id,fG (aT H' id)=fG (aT H id)):∀ (l:List TA),iz H N l→iz H' N (HZ i x l)
 | [],h=>by simp only [HZ,iz]
 | a::r,h=>by simp only [HZ,iz] at h ⊢;exact ⟨VO sZ a h.1,Fq sZ r h.2⟩
end
theorem T6 {H H':List (Nat×aY)} {i:Nat} {x:cN} (b:aY):((b.re i x).dC H').fc=(b.dC H).fc:=by
 cases b with
 | dq t v xs i' os=>simp only [aY.re,aY.dC];cases v.b<;>rfl
 | row t v xs=>rfl
 | _=>rfl
theorem acy {s:bP} {a:Act} (i:Nat) (ho:s.ok) (hs:SR w F O μ (below s.N) s.st ft a):(VN s i).ok∧(VN s i).N=s.N∧(VN s i).nt=s.nt∧
  ∃ F' O',SR w F' O' μ (below (VN s i).N) (VN s i).st ft a∧Fr w F O μ (below s.N) w F' O' μ:=by
 unfold VN;split
 ·rename_i t v xs hi
  let F':Nat→Prop:=fun b=>F b∨(s.st.H.live i∧ft i b)
  let O':Nat→Prop:=fun b=>O b∧¬ (s.st.H.live i∧ft i b)
  generalize hH':cD (s.H.map fun p=>(p.1,p.2.re i ⟨.sl t,xs⟩)) [(i,none)]=H';have hl:∀ id,id≠i→aT H' id=(aT s.H id).map (aY.re i ⟨.sl t,xs⟩):=fun id bZ=>by
   rw [← hH'];simp only [cD,aT,cd bZ,KO]
  have hli:∃ x,aT H' i=some (.bZ x):=by
   rw [← hH'];simp only [cD,aT,Nat.beq_refl];exact ⟨_,rfl⟩
  have sZ:∀ id,fG (aT H' id)=fG (aT s.H id):=fun id=>by
   by_cases e:id=i
   ·subst e;rw [← hH'];simp only [cD,aT,Nat.beq_refl,KO];exact WS _ _ _
   ·rw [hl id e,WS]
  have hF:∀ b,F b→F' b:=fun b h=>.inl h;have hz:∀ u,VR w F μ (below s.N) (du v.b i xs.length (fx t)) u→VR w F' μ (below s.N) (cT ⟨.sl t,xs⟩) u:=fun u hu=>KF hs hi hu hF (fun hU b hb=>.inr ⟨hU,hb⟩);refine ⟨⟨fun q=>?_,fun id l Q8=>?_⟩,rfl,rfl,F',O',⟨?_,hs.nt,fun q=>?_,hs.df.sub (fun b hb=>hb.1) fun b hb=>hb.imp id fun ⟨h1,h2⟩=>hs.hr.own i h1 b h2⟩,⟨rfl,rfl,rfl,Nat.le_refl _,fun _ _=>rfl,hF,fun _ _=>rfl,fun _ _ _=>rfl,fun b hb=>.inl hb.1,fun b hb=>?_⟩⟩
  ·show (look (s.tm.map fun p=>(p.1,p.2.re i ⟨.sl t,xs⟩)) q).wf H' s.N;rw [On];exact VO sZ _ (ho.tm q)
  ·have Q8:aT H' id=some l:=Q8;by_cases e:id=i
   ·obtain ⟨x,hx⟩:=hli;rw [e,hx] at Q8;cases Q8;simp only [aY.refs,iz]
   ·rw [hl id e] at Q8;cases hb:aT s.H id with
    | none=>rw [hb] at Q8;cases Q8
    | some b=>
     rw [hb] at Q8;simp only [Option.map_some,Option.some.injEq] at Q8;subst Q8;have hw:=ho.H id b hb;cases b with
     | box l0=>exact Fq sZ l0 hw
     | dq t' v' xs' i' os=>exact (iK (fun b9 _=>sZ b9) (Nat.le_refl _) _ hw).2
     | _=>simp only [aY.re,aY.refs,iz]
  ·have hr:=hs.hr;have lv:∀ id,Hp.live (xk H') id→id≠i∧s.st.H.live id:=by
    rintro id ⟨b',cl,hlb⟩
    obtain ⟨c,hc,hv,rfl⟩:=iy cl;have qJ:id≠i:=fun e=>by
     obtain ⟨x,hx⟩:=hli;rw [e,hx] at hc;cases hc;cases hv
    rw [hl id qJ] at hc;cases hb:aT s.H id with
    | none=>rw [hb] at hc;cases hc
    | some b=>
     rw [hb] at hc;simp only [Option.map_some,Option.some.injEq] at hc;subst hc;refine ⟨qJ,_,dG hb (by cases b<;>first | rfl | (cases hv)),?_⟩;rw [T6] at hlb;exact hlb
   show HR w F' O' μ (below s.N) (xk H') ft;refine { lt:=hr.lt,known:=fun id b' cl=>?_,dC:=fun id b' cl hlb=>?_,self:=fun id h=>hr.self id (lv id h).2,own:=fun id h x hx=>⟨hr.own id (lv id h).2 x hx,fun ⟨h1,h2⟩=>(lv id h).1 (hr.dj id i (lv id h).2 h1 x hx h2)⟩,dj:=fun id b9 h h'=>hr.dj id b9 (lv id h).2 (lv b9 h').2,y9:=fun b hb hf=>?_,wf:=fun b hb=>?_,rR:=fun b hb=>hr.rR b hb.1,pos:=hr.pos.mono (Nat.le_refl _) (fun _ h=>.inl h) fun _ _=>rfl }
   ·obtain ⟨c,hc,hv,rfl⟩:=iy cl;have qJ:id≠i:=fun e=>by
     obtain ⟨x,hx⟩:=hli;rw [e,hx] at hc;cases hc;cases hv
    rw [hl id qJ] at hc;cases hb:aT s.H id with
    | none=>rw [hb] at hc;cases hc
    | some b=>
     rw [hb] at hc;simp only [Option.map_some,Option.some.injEq] at hc;subst hc;exact hr.known id _ (dG hb (by cases b<;>first | rfl | (cases hv)))
   ·obtain ⟨c,hc,hv,rfl⟩:=iy cl;have qJ:id≠i:=fun e=>by
     obtain ⟨x,hx⟩:=hli;rw [e,hx] at hc;cases hc;cases hv
    rw [hl id qJ] at hc;cases hb:aT s.H id with
    | none=>rw [hb] at hc;cases hc
    | some b=>
     rw [hb] at hc;simp only [Option.map_some,Option.some.injEq] at hc;subst hc;obtain ⟨o,ho1,hB⟩:=hr.dC id _ (dG hb (by cases b<;>first | rfl | (cases hv))) (by rw [T6] at hlb;exact hlb);refine ⟨o,ho1,?_⟩;have up:∀ {B:jV},ij w F μ (below s.N) (ft id) (μ id) o B→ij w F' μ (below s.N) (ft id) (μ id) o B:=fun hB=>hB.mono (fun _ _=>rfl) hF (fun _ _=>rfl) (fun _ h=>h) (fun _ _=>rfl) (fun _ _ _=>rfl);cases b with
     | box l0=>
      obtain ⟨cs,q,m1,m2,m3,m4⟩:=hB;refine ⟨cs,q,m1,m2,?_,fun k hk=>?_⟩
      ·rw [bG] at m3 ⊢;rw [EW];simpa using m3
      ·rw [bG,EW,List.length_map] at hk;have m5:=m4 k (by rw [bG];exact hk);rw [dO _ _ _ hk] at m5;rw [dO _ _ _ (by rw [EW];simpa using hk),EW];have e5:(l0.map (TA.re i ⟨.sl t,xs⟩)).getD k .top=(l0.getD k .top).re i ⟨.sl t,xs⟩:=by simp [List.getD,hk]
       rw [e5];exact R1 hi sZ hF hz _ m5
     | row t' v' xs'=>exact up hB
     | dq t' v' xs' i' os=>
      have e6:(aY.dq t' v' xs' i' os).dC H'=(aY.dq t' v' xs' i' os).dC s.H:=qL (N:=s.N) (fun b9 _=>sZ b9) (ho.H id _ hb);rw [show aY.re i ⟨.sl t,xs⟩ (aY.dq t' v' xs' i' os)=aY.dq t' v' xs' i' os from rfl,e6];exact up hB
     | bZ x=>cases hv
     | dmap i' l'=>exact up hB
     | Ts t' l'=>exact up hB
   ·rcases hf with h | h
    ·exact hr.y9 b hb.1 h
    ·exact hb.2 h
   ·rcases hb with h | ⟨h1,h2⟩
    ·exact hr.wf b h
    ·exact hr.rR b (hr.own i h1 b h2)
  ·show VR w F' μ _ ((look (s.tm.map fun p=>(p.1,p.2.re i ⟨.sl t,xs⟩)) q).av H') _;rw [On];exact R1 hi sZ hF hz _ (hs.tm q)
  ·rcases hb with h | ⟨h1,h2⟩
   ·exact .inl h
   ·exact .inr (.inr (hs.hr.own i h1 b h2))
 ·exact ⟨ho,rfl,rfl,F,O,hs,Fr.refl _ _ _ _ _⟩
theorem R2 {a:Act}:∀ (L:List Nat) {s:bP} {F O:Nat→Prop},s.ok→SR w F O μ (below s.N) s.st ft a→(EV s L).ok∧(EV s L).N=s.N∧(EV s L).nt=s.nt∧
  ∃ F' O',SR w F' O' μ (below (EV s L).N) (EV s L).st ft a∧Fr w F O μ (below s.N) w F' O' μ
 | [],s,F,O,ho,hs=>⟨ho,rfl,rfl,F,O,hs,Fr.refl _ _ _ _ _⟩
 | i::r,s,F,O,ho,hs=>by
  obtain ⟨h1,h2,h3,F1,O1,h4,h5⟩:=acy i ho hs;obtain ⟨k1,k2,k3,F2,O2,k4,k5⟩:=R2 r h1 h4;exact ⟨k1,k2.trans h2,k3.trans h3,F2,O2,k4,h5.trans (by rw [← h2];exact k5)⟩
def T7:TA→List Nat
 | .ow id=>[id]
 | .agg cs=>cs.flatMap fun a=>match a with
  | .ow id=>[id]
  | _=>[]
 | _=>[]
def aeq:List CT→FuncId→bP→List TA→List Nat
 | [],_,_,_=>[]
 | c::r,f,s,as=>match Nat.beq c.f f&&fits c s as with
  | true=>match c.outs.all fun a=>a.res.flat&&a.db.all Bp.flat with
   | true=>[]
   | false=>match ES s.H c.args as ⟨[],[]⟩ with
    | some (e1,_)=>match ET s.H c.db 0 e1 with
     | some (e2,_)=>e2.fz
     | none=>[]
    | none=>[]
  | false=>aeq r f s as
def KP (E:Env) (bN:List CT) (o:Oper) (s:bP):List Nat:=match o.op with
 | .call ⟨.value x,⟨args⟩,_⟩=>match s.val x with
  | .fn (.func f) first cap=>aeq (KM E o.dst bN) f s ((first++args.map s.val)++cap)
  | _=>[]
 | .call ⟨.invoke x name,⟨args⟩,_⟩=>match s.val x with
  | .pJ t b=>match Oe E.mt t name with
   | some f=>aeq (KM E o.dst bN) f s (b::args.map s.val)
   | none=>[]
  | _=>[]
 | .store _ x y=>match s.val x with
  | .rp _ _ _=>match rpD s.H (s.val x) with
   | true=>[]
   | false=>T7 (s.val y)
  | _=>[]
 | .buildSlice t _ ⟨ps⟩=>match acv E o.dst with
  | true=>[]
  | false=>match ada E t with
   | some _=>ps.flatMap fun p=>T7 (s.val p.2)
   | none=>[]
 | .box _ x=>match o.dst with
  | some d=>match xG E.fz d with
   | true=>T7 (s.val x)
   | false=>[]
  | none=>[]
 | .slice _ x _ _ none=>T7 (s.val x)
 | _=>[]
def aaQ (H:List (Nat×aY)) (id:Nat):Bool:=match aT H id with
 | some (.dq _ _ _ _ _)=>true
 | _=>false
def rpH (H:List (Nat×aY)):TA→List Nat
 | .rp id _ _=>match aaQ H id with
  | true=>[id]
  | false=>[]
 | _=>[]
def Py (o:Oper) (s:bP):List Nat:=match o.op with
 | .load _ x=>rpH s.H (s.val x)
 | .store _ x _=>rpH s.H (s.val x)
 | .call ⟨_,⟨args⟩,_⟩=>args.flatMap fun x=>(T7 (s.val x)).filter (aaQ s.H)
 | _=>[]
def bP.EX (s:bP) (t:Nat) (b:Bool):bP:={ s with tm:=(t,.d ⟨.bool,b⟩)::s.tm }
theorem Jr {s:bP} {t:Nat} {b:Bool} (ho:s.ok):(s.EX t b).ok:=by
 refine ⟨fun u=>?_,ho.H⟩;simp only [bP.EX,look];cases e:Nat.beq u t with
 | true=>simp only [TA.wf]
 | false=>exact ho.tm u
theorem Mo {s:bP} {t:Nat} {b:Bool} {a:Act} (hs:SR w F O μ K s.st ft a) (h:look s.tm t=.d ⟨.bool,b⟩):SR w F O μ K (s.EX t b).st ft a:=by
 refine ⟨hs.hr,hs.nt,fun u=>?_,hs.df⟩;have:=hs.tm u;simp only [bP.st,bP.EX,look] at this ⊢;cases e:Nat.beq u t with
 | true=>rw [Nat.eq_of_beq_eq_true e,h] at this;rw [Nat.eq_of_beq_eq_true e];exact this
 | false=>exact this
theorem H3 {ops:Array Oper} {s:bP} {o:Oper} {t:Nat} {b c:Bool} (h:Om ops s o=some (.on t b c)):look s.tm t=.d ⟨.bool,b⟩:=by
 unfold Om at h;split at h
 ·cases h
 ·split at h
  ·split at h
   ·rename_i b' hb;cases h;exact hb
   ·cases h
   ·cases h
  ·cases h
def Oq (E:Env) (bN:List CT) (o:Oper) (s:bP) (b:Bool) (κ:bP→Option R) (Av:TA→bP→Option R):Option R:=
 match b with
 | true=>match EV (tg s (Py o s)) (KP E bN o (tg s (Py o s))) with
  | ⟨nt,N,tm,H⟩=>evT E bN o ⟨nt,N,tm,H⟩ (fun r=>κ ((bP.next ⟨nt,N,tm,H⟩ r).put o.dst r.v)) (fun r=>Av r.v (bP.next ⟨nt,N,tm,H⟩ r))
 | false=>κ (s.put o.dst (.lit undef))
def Jt (E:Env) (bN:List CT) (ops:Array Oper):List Oper→bP→(bP→Option R)→(TA→bP→Option R)→Option R
 | [],s,κ,_=>κ s
 | o::rest,s,κ,Av=>match pz s o.dst with
  | true=>match Om ops s o with
   | some .yes=>Oq E bN o s true (fun s=>Jt E bN ops rest s κ Av) Av
   | some .no=>Oq E bN o s false (fun s=>Jt E bN ops rest s κ Av) Av
   | some (.on t b c)=>cond b (Oq E bN o (s.EX t true) c (fun s=>Jt E bN ops rest s κ Av) Av) (Oq E bN o (s.EX t false) (!c) (fun s=>Jt E bN ops rest s κ Av) Av)
   | none=>none
  | false=>none
def Pz (n0:Nat×Nat) (s:bP) (a:Act):Prop:=s.nt=n0.1∧∀ b,yS b∈a.defers→n0.2≤b
theorem Pz.put {n0:Nat×Nat} {s s':bP} {a:Act} {d d':Option Nat} {v:TA} {u:Value} (h:Pz n0 s a) (e:s'.nt=s.nt):Pz n0 (s'.put d v) (a.put d' u):=by
 cases d<;>cases d'<;>exact ⟨e.trans h.1,h.2⟩
theorem Pz.to {n0:Nat×Nat} {s s':bP} {a:Act} (h:Pz n0 s a) (e:s'.nt=s.nt):Pz n0 s' a:=⟨e.trans h.1,h.2⟩
structure zh (w:World) (F O:Nat→Prop) (μ:Nat→Nat) (m0:Nat) (n0:Nat×Nat) (s':bP) (a':Act) (w':World) (F' O':Nat→Prop) (bD:Nat→Nat) (bY:Nat→Nat→Prop):Prop where
 ok:s'.ok
 le:m0≤s'.N
 nt:Pz n0 s' a'
 sr:SR w' F' O' bD (below s'.N) s'.st bY a'
 fr:Fr w F O μ (below m0) w' F' O' bD
theorem zh.trans {m0:Nat} {n0:Nat×Nat} {s':bP} {a':Act} (hf:Fr w F O μ (below m0) w' F' O' bD) (h:zh w' F' O' bD m0 n0 s' a' xh Bn vW lF bY):zh w F O μ m0 n0 s' a' xh Bn vW lF bY:=
 ⟨h.ok,h.le,h.nt,h.sr,hf.trans h.fr⟩
theorem zh.refl {m0:Nat} {n0:Nat×Nat} {s:bP} {a:Act} (ho:s.ok) (hm:m0≤s.N) (hn:Pz n0 s a) (hs:SR w F O μ (below s.N) s.st ft a):zh w F O μ m0 n0 s a w F O μ ft:=⟨ho,hm,hn,hs,Fr.refl _ _ _ _ _⟩
theorem VP {E:Env} {bN:List CT} {o:Oper} {s:bP} {κ Av:cx→Option R} {z:R} (h:evT E bN o s κ Av=some z):∀ c,o.op≠.defer c:=fun c hc=>by
 simp [evT,ev0,hc] at h
theorem Yy {E:Env} {bN:List CT} {o:Oper} {s:bP} {κ:bP→Option R} {Av:TA→bP→Option R} {z:R} {m0:Nat} {n0:Nat×Nat} {a:Act} {Kn:Act→World→Prop} {Q:Exit→Act→World→Prop} (hE:xm E bN)
  (h:evT E bN o s (fun r=>κ ((s.next r).put o.dst r.v)) (fun r=>Av r.v (s.next r))=some z) (hd:pz s o.dst=true) (ho:s.ok) (hm:m0≤s.N) (hn:Pz n0 s a) (hs:SR w F O μ (below s.N) s.st ft a)
  (hk:∀ s' a' w' F' O' bD bY,κ s'=some z→zh w F O μ m0 n0 s' a' w' F' O' bD bY→Kn a' w')
  (hp:∀ v u s' a' w' F' O' bD bY,Av v s'=some z→v.wf s'.H s'.N→VR w' F' bD (below s'.N) (v.av s'.H) u→zh w F O μ m0 n0 s' a' w' F' O' bD bY→Q (.panic [{ v:=u,recovered:=false }]) a' w'):o.wp E.P a w Kn Q:=by
 rcases VL hE ho h with ⟨r,h1,h2,h3⟩ | ⟨r,h1,h2,h3⟩
 ·refine Wu h1 hs fun v w' F' O' bD bY k1 k2 k3=>?_;have IA:=RC hs ho h2 k2 k3;have JG:=Jd ho h2;have hN:((s.next r).put o.dst r.v).N=s.N+r.k:=by cases o.dst<;>rfl
  have NN:pz (s.next r) o.dst=true:=by cases PA:o.dst<;>rw [PA] at hd<;>exact hd
  exact hk _ _ w' F' O' bD bY h3 ⟨Au JG h2.v,by rw [hN];omega,hn.put rfl,by rw [hN];exact HL IA NN k1,k3.OR fun id (bZ:id < m0)=>(show id < s.N by omega)⟩
 ·refine aan h1 hs fun v w' F' O' bD bY k1 k2 k3=>?_;have IA:=RC hs ho h2 k2 k3;have JG:=Jd ho h2;exact hp r.v v (s.next r) a w' F' O' bD bY h3 h2.v k1 ⟨JG,by show m0≤s.N+r.k;omega,hn.to rfl,IA,k3.OR fun id (bZ:id < m0)=>(show id < s.N by omega)⟩
theorem aaR {E:Env} {bN:List CT} {o:Oper} {s:bP} {b:Bool} {κ:bP→Option R} {Av:TA→bP→Option R} {z:R} {m0:Nat} {n0:Nat×Nat} {a:Act} {ops:Array Oper} {ro:Option Nat} {Kn:Act→World→Prop} {Q:Exit→Act→World→Prop} (hE:xm E bN) (h:Oq E bN o s b κ Av=some z)
  (hd:pz s o.dst=true) (hw:Region.wanted o (yielded ops a.tmps)=b) (ho:s.ok) (hm:m0≤s.N) (hn:Pz n0 s a) (hs:SR w F O μ (below s.N) s.st ft a)
  (hk:∀ s' a' w' F' O' bD bY,κ s'=some z→zh w F O μ m0 n0 s' a' w' F' O' bD bY→Kn a' w')
  (hp:∀ v u s' a' w' F' O' bD bY,Av v s'=some z→v.wf s'.H s'.N→VR w' F' bD (below s'.N) (v.av s'.H) u→zh w F O μ m0 n0 s' a' w' F' O' bD bY→Q (.panic [{ v:=u,recovered:=false }]) a' w'):
  if Region.wanted o (yielded ops a.tmps) then o.wpIn (Wr ro) 0 E.P a w Kn Q else (∀ f,o.about E.P w a.eval=some f→(Wr ro).fn f)∧Kn (a.put o.dst undef) w:=by
 cases b with
 | false=>
  rw [hw];simp only [Oq] at h;simp only [Bool.false_eq_true,if_false];have hN:(s.put o.dst (.lit undef)).N=s.N:=by cases o.dst<;>rfl
  refine ⟨fun _ _=>trivial,?_⟩;exact hk _ _ w F O μ ft h ⟨Au ho (by simp only [TA.wf]),by rw [hN];exact hm,hn.put rfl,by rw [hN];exact HL hs hd (by simp only [TA.av];exact .lit _),Fr.refl _ _ _ _ _⟩
 | true=>
  rw [hw];obtain ⟨y1,y2,y3,_,Ww,y4⟩:=Jj (Py o s) ho hs;have h:evT E bN o (EV (tg s (Py o s)) (KP E bN o (tg s (Py o s)))) (fun r=>κ ((bP.next (EV (tg s (Py o s)) (KP E bN o (tg s (Py o s)))) r).put o.dst r.v)) (fun r=>Av r.v (bP.next (EV (tg s (Py o s)) (KP E bN o (tg s (Py o s)))) r))=some z:=h;generalize tg s (Py o s)=s0 at h y1 y2 y3 y4;rw [← y2] at y4;obtain ⟨z1,z2,z3,F1,O1,z4,z5⟩:=R2 (KP E bN o s0) y1 y4;rw [y2] at z2 z5;rw [y3] at z3;have hd:pz (EV s0 (KP E bN o s0)) o.dst=true:=by
   cases PA:o.dst with
   | none=>rfl
   | some t=>rw [PA] at hd;simp only [pz,z3] at hd ⊢;exact hd
  have Yc:m0≤(EV s0 (KP E bN o s0)).N:=by rw [z2];exact hm
  simp only [if_true];have z5':=z5.OR (K':=below m0) fun id (bZ:id < m0)=>(show id < s.N by omega);exact T5 (VP h) (Yy hE h hd z1 Yc (hn.to z3) z4 (fun s' a' w' F' O' bD bY k1 k2=>hk s' a' w' F' O' bD bY k1 (k2.trans z5')) fun v u s' a' w' F' O' bD bY k0 k1 k2 k3=>hp v u s' a' w' F' O' bD bY k0 k1 k2 (k3.trans z5'))
theorem T8 {E:Env} {bN:List CT} {ops:Array Oper} {κ:bP→Option R} {Av:TA→bP→Option R} {z:R} {m0:Nat} {n0:Nat×Nat} {ro:Option Nat} {Q:Exit→Act→World→Prop} (hE:xm E bN):∀ {l:List Oper} {s:bP} {w:World} {F O:Nat→Prop} {μ:Nat→Nat} {ft:Nat→Nat→Prop} {a:Act},
  Jt E bN ops l s κ Av=some z→s.ok→m0≤s.N→Pz n0 s a→SR w F O μ (below s.N) s.st ft a→
  (∀ s' a' w' F' O' bD bY,κ s'=some z→zh w F O μ m0 n0 s' a' w' F' O' bD bY→Q .normal a' w')→
  (∀ v u s' a' w' F' O' bD bY,Av v s'=some z→v.wf s'.H s'.N→VR w' F' bD (below s'.N) (v.av s'.H) u→zh w F O μ m0 n0 s' a' w' F' O' bD bY→Q (.panic [{ v:=u,recovered:=false }]) a' w')→wpListIn (Wr ro) 0 E.P ops Q l a w
 | [],s,w,F,O,μ,ft,a,h,ho,hm,hn,hs,hk,hp=>by
  simp only [Jt] at h;exact hk s a w F O μ ft h (.refl ho hm hn hs)
 | o::rest,s,w,F,O,μ,ft,a,h,ho,hm,hn,hs,hk,hp=>by
  simp only [Jt] at h;have go:∀ (s0:bP) (b:Bool),Oq E bN o s0 b (fun s=>Jt E bN ops rest s κ Av) Av=some z→pz s0 o.dst=true→s0.ok→m0≤s0.N→Pz n0 s0 a→SR w F O μ (below s0.N) s0.st ft a→Region.wanted o (yielded ops a.tmps)=b→wpListIn (Wr ro) 0 E.P ops Q (o::rest) a w:=by
   intro s0 b h0 hd0 ho0 hm0 JI Hn hw0;exact aaR (ops:=ops) hE h0 hd0 hw0 ho0 hm0 JI Hn (fun s' a' w' F' O' bD bY OU hh=>T8 hE OU hh.ok hh.le hh.nt hh.sr
    (fun s2 a2 w2 F2 O2 Gk Lt k1 k2=>hk s2 a2 w2 F2 O2 Gk Lt k1 (k2.trans hh.fr))
    (fun v u s2 a2 w2 F2 O2 Gk Lt k1 kw k2 k3=>hp v u s2 a2 w2 F2 O2 Gk Lt k1 kw k2 (k3.trans hh.fr))) hp
  split at h
  ·rename_i hd;split at h
   ·rename_i hw;exact go s true h hd ho hm hn hs (qe hs hw)
   ·rename_i hw;exact go s false h hd ho hm hn hs (qe hs hw)
   ·rename_i t b c hw;have hl:=H3 hw;have X5:=qe hs hw;simp only at X5;cases b with
    | true=>
     refine go _ c h hd (Jr ho) hm (hn.to rfl) (Mo hs hl) ?_;rw [X5];cases c<;>rfl
    | false=>
     refine go _ (!c) h hd (Jr ho) hm (hn.to rfl) (Mo hs hl) ?_;rw [X5];cases c<;>rfl
   ·cases h
  ·cases h
end Go.Proofs.YtjkbbdldmdajkaaGreatDoor.c_
