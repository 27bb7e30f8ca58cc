/- What code computes, as a function of states. No condition. -/
import Derived.Test.YtjkbbdldmdajkaaGreatDoorWI
import Derived.Scope
set_option linter.unusedSimpArgs false
set_option linter.unusedVariables false
namespace Go.Proofs.YtjkbbdldmdajkaaGreatDoor.c_
open Go Go.RowKit
variable {w w' xh:World} {F F' Bn O O' vW:Nat→Prop} {μ bD lF:Nat→Nat} {K K' EB:Nat→Prop} {ft bY:Nat→Nat→Prop} {P:Program} {R:Type}
def share {α β:Type} (x:α) (f:α→β):β:=f x
def iter {ts:List Ty} {R:Type} (k:Nat) (body:Nat→L7 ts (Option R)→L7 ts (Option R)):L7 ts (Option R):=match k with
 | 0=>Xl ts fun _=>none
 | k+1=>body k (iter k body)
structure Ann where
 loop:List (Nat×jS)
 join:List (Nat×jS)
 draw:List (Nat×List Nat×List (Nat×List Nat))
 it:Nat→List IT
def afD:List (Nat×jS)→Nat→Option jS
 | [],_=>none
 | (i,f)::r,k=>match Nat.beq k i with
  | true=>some f
  | false=>afD r k
def afE:List (Nat×List Nat×List (Nat×List Nat))→Nat→Option (List Nat×List (Nat×List Nat))
 | [],_=>none
 | (i,f)::r,k=>match Nat.beq k i with
  | true=>some f
  | false=>afE r k
def CF:Code→Option Nat
 | .region id _ _=>some id
 | .seq a b=>match CF a with
  | some i=>some i
  | none=>CF b
 | .cond _ a b=>match CF a with
  | some i=>some i
  | none=>CF b
 | .block _ c=>CF c
 | .loop c=>CF c
 | .scope c=>CF c
 | .rangeFunc _ _ c _=>CF c
 | _=>none
def acD (l:List (Nat×jS)) (c:Code):Option jS:=match CF c with
 | some i=>afD l i
 | none=>none
structure Ks (R:Type) where
 n:bP→Option R
 x:Nat→bP→Option R
 r:bP→Option R
 p:TA→bP→Option R
inductive Place where
 | tm (t:Nat) (ty:Ty) (v:RV)
 | cell (id off:Nat) (ty:Ty) (v:RV)
 | dH (id off:Nat)
 | aew (t:Nat)
def C_ (s:bP):Place→bP
 | .tm t ty v=>match look s.tm t,v.b with
  | .fA,true=>⟨s.nt,s.N+1,(t,.ow s.N)::s.tm,cD s.H [(s.N,some (.row ty v []))]⟩
  | _,_=>s
 | .cell id off ty v=>match aT s.H id,v.b with
  | some (.box l),true=>match l.getD off .top with
   | .fA=>⟨s.nt,s.N+1,s.tm,cD s.H [(id,some (.box (l.set off (.ow s.N)))),(s.N,some (.row ty v []))]⟩
   | _=>s
  | _,_=>s
 | .dH id off=>match aT s.H id with
  | some (.box l)=>match l.getD off .top with
   | .ow j=>match aT s.H j with
    | some (.row ty v xs)=>⟨s.nt,s.N+1,s.tm,cD s.H [(id,some (.box (l.set off (.ow s.N)))),(s.N,some (.row ty v xs)),(j,none)]⟩
    | _=>s
   | _=>s
  | _=>s
 | .aew t=>match look s.tm t with
  | .ow j=>match aT s.H j with
   | some (.row ty v xs)=>⟨s.nt,s.N+1,(t,.ow s.N)::s.tm,cD s.H [(s.N,some (.row ty v xs)),(j,none)]⟩
   | _=>s
  | _=>s
def BA (s:bP):List Place→bP
 | []=>s
 | p::r=>BA (C_ s p) r
theorem aa0 {s:bP} {a:Act} (ty:Ty) (v:RV) (hs:SR w F O μ (below s.N) s.st ft a):
  HR w F O (Ia μ s.N 0) (below (s.N+1)) (s.st.H.dh [(s.N,some (.row true (fx ty) 0 (bV v ty [])))]) ft∧Fr w F O μ (below s.N) w F O (Ia μ s.N 0):=by
 have h:=xK (N:=s.N) (bA:=fx ty) (e:=bV v ty []) hs.hr (fun h=>absurd h (by simp [below]));have e:plus (below s.N) [s.N]=below (s.N+1):=Cv s.N 1;rw [e] at h;exact h
theorem HR.ag3 {H H':Hp} (hr:HR w F O μ K H ft) (h:∀ id b',H' id=some b'→∃ b,H id=some b∧(b'.fc=true→b.fc=true)∧∀ o,ij w F μ K (ft id) (μ id) o b→ij w F μ K (ft id) (μ id) o b'):HR w F O μ K H' ft:=by
 have lv:∀ id,H'.live id→H.live id:=fun id ⟨b',cl,hl⟩=>by
  obtain ⟨b,h1,h2,_⟩:=h id b' cl;exact ⟨b,h1,h2 hl⟩
 refine { lt:=hr.lt,known:=fun id b' cl=>?_,dC:=fun id b' cl hl=>?_,self:=fun id hl=>hr.self id (lv id hl),own:=fun id hl=>hr.own id (lv id hl),dj:=fun id b9 hl Cs=>hr.dj id b9 (lv id hl) (lv b9 Cs),y9:=hr.y9,wf:=hr.wf,rR:=hr.rR,pos:=hr.pos }
 ·obtain ⟨b,h1,_⟩:=h id b' cl;exact hr.known id b h1
 ·obtain ⟨b,h1,h2,h3⟩:=h id b' cl;obtain ⟨o,ho,hB⟩:=hr.dC id b h1 (h2 hl);exact ⟨o,ho,h3 o hB⟩
theorem W0 {v:Bool} {j N n bA:Nat} {u:Value} (hN:K N) (Rm:(v=true∧n=0)∨μ N=μ j) (h:VR w F μ K (du v j n bA) u):VR w F μ K (du v N n bA) u:=by
 cases v with
 | false=>
  have e:μ N=μ j:=by rcases Rm with ⟨h,_⟩ | h;cases h;exact h
  simp only [du] at h ⊢;cases h with
  | ms _ _ _ _ cap sz t bZ hc hs fT=>rw [← e];exact .ms _ _ _ _ cap sz t hN hc (by rw [e];exact hs) fT
 | true=>
  simp only [du] at h ⊢;cases h with
  | vs _ _ _ cap sz t hn bZ hc hs fT=>
   have e:μ N=μ j:=by rcases Rm with ⟨_,h⟩ | h;exact absurd h hn;exact h
   rw [← e];exact .vs _ _ _ cap sz t hn hN hc (by rw [e];exact hs) fT
  | s8=>exact .s8 _ _ _
theorem aex {s:bP} {a:Act} {j:Nat} {ty:Ty} {v:RV} {xs:List ty.dn} (hs:SR w F O μ (below s.N) s.st ft a) (hj:aT s.H j=some (.row ty v xs)):
  ∃ bD bY,HR w F O bD (below (s.N+1)) (s.st.H.dh [(s.N,some (.row v.b (fx ty) xs.length (bV v ty xs))),(j,none)]) bY∧Fr w F O μ (below s.N) w F O bD∧
   ∀ u,VR w F bD (below (s.N+1)) (du v.b j xs.length (fx ty)) u→VR w F bD (below (s.N+1)) (du v.b s.N xs.length (fx ty)) u:=by
 have hH:s.st.H j=some (.row v.b (fx ty) xs.length (bV v ty xs)):=dG hj;have hjN:j < s.N:=hs.hr.known j _ hH;have eK:plus (below s.N) [s.N]=below (s.N+1):=Cv s.N 1;have hKN:¬ below s.N s.N:=by simp [below]
 cases hl:(jV.row v.b (fx ty) xs.length (bV v ty xs)).fc with
 | true=>
  obtain ⟨o,ho,hB⟩:=hs.hr.dC j _ hH hl;have hU:s.st.H.live j:=⟨_,hH,hl⟩;have NJ:=hs.hr.self j hU;have hO:=hs.hr.own j hU _ NJ;have hp:tl w w (μ j) o:=⟨rfl,rfl,rfl,Nat.le_refl _,hs.hr.lt j hjN,ho,fun _ _ _=>rfl,fun _ _=>rfl⟩;obtain ⟨k1,k2⟩:=EC (M:=s.N) (L:=[j]) (S:=ft j) hs.hr hp (.inl hO) (fun h=>absurd h hKN) (fun x hx=>.inr ⟨j,.inr (by simp),hU,hx⟩) NJ
   (fun id h1 h2 h3 h4=>h3 (by have:=hs.hr.dj id j h1 hU _ h4 NJ;simp [this])) hB
  have eO:(fun x=>O x∨x=μ j)=O:=by
   funext x;exact propext ⟨fun h=>by rcases h with h | h;exact h;rw [h];exact hO,.inl⟩
  rw [eO,eK] at k1;rw [eO] at k2;refine ⟨_,_,k1,k2,fun u hu=>W0 (by simp [below]) (.inr ?_) hu⟩;rw [gA,I0 (by omega)]
 | false=>
  have hv:v.b=true∧xs.length=0:=by
   cases hvb:v.b with
   | false=>rw [hvb] at hl;simp [jV.fc] at hl
   | true=>rw [hvb] at hl;simpa [jV.fc] using hl
  obtain ⟨k1,k2⟩:=xK (N:=s.N) (bA:=fx ty) (e:=bV v ty xs) hs.hr hKN;rw [eK] at k1;refine ⟨_,ft,k1.imp fun id b' cl=>?_,k2,fun u hu=>W0 (by simp [below]) (.inl hv) hu⟩;simp only [Hp.dh] at cl ⊢;by_cases e:id=s.N
  ·rw [if_pos e] at cl ⊢;rw [hv.1,hv.2] at cl;exact ⟨b',cl,eQ.refl _⟩
  ·rw [if_neg e] at cl ⊢;by_cases e2:id=j
   ·rw [if_pos e2] at cl;cases cl
   ·rw [if_neg e2] at cl;exact ⟨b',cl,eQ.refl _⟩
theorem Qr {s:bP} {a:Act} {j:Nat} {ty:Ty} {v:RV} {xs:List ty.dn} (ho:s.ok) (hs:SR w F O μ (below s.N) s.st ft a) (hj:aT s.H j=some (.row ty v xs)) {Ux:List (Nat×TA)} {H':List (Nat×aY)}
  (jO:Sub s.H H' s.N) (hN:aT H' s.N=some (.row ty v xs)) (mQ:∀ b,aT H' j=some b→b.Uv=false) (htm:∀ t,look Ux t=look s.tm t∨(look s.tm t=.ow j∧look Ux t=.ow s.N))
  (hH:∀ id,id≠s.N→id≠j→aT H' id=aT s.H id∨∃ l off,aT s.H id=some (.box l)∧l.getD off .top=.ow j∧aT H' id=some (.box (l.set off (.ow s.N)))):
  bP.ok ⟨s.nt,s.N+1,Ux,H'⟩∧s.N≤s.N+1∧s.nt=s.nt∧Sub s.H H' s.N∧∃ bD bY,SR w F O bD (below (s.N+1)) (bP.st ⟨s.nt,s.N+1,Ux,H'⟩) bY a∧Fr w F O μ (below s.N) w F O bD:=by
 obtain ⟨bD,bY,h1,h2,h3⟩:=aex hs hj;have hjN:j < s.N:=hs.hr.known j _ (dG hj);have ej:(TA.ow j).av s.H=du v.b j xs.length (fx ty):=by simp only [TA.av,hj,fG]
 have eN:(TA.ow s.N).av H'=du v.b s.N xs.length (fx ty):=by simp only [TA.av,hN,fG]
 have stp:∀ {x u},VR w F μ (below s.N) x u→VR w F bD (below (s.N+1)) x u:=fun hx=>hx.step hs.hr h2 fun id (h:id < s.N)=>(by show id < s.N+1;omega);refine ⟨⟨fun t=>?_,fun id l hl=>?_⟩,Nat.le_succ _,rfl,jO,bD,bY,⟨h1.ag3 fun id b' hb=>?_,hs.nt,fun t=>?_,hs.df⟩,h2⟩
 ·show (look Ux t).wf H' (s.N+1);rcases htm t with e | ⟨_,e⟩
  ·rw [e];exact (jR jO (Nat.le_succ _) _ (ho.tm t)).2
  ·rw [e];simp only [TA.wf];omega
 ·have hl:aT H' id=some l:=hl;by_cases e:id=s.N
  ·rw [e,hN] at hl;cases hl;simp only [aY.refs,iz]
  ·by_cases e2:id=j
   ·subst e2;have:=mQ _ hl;cases l with
    | bZ=>simp only [aY.refs,iz]
    | _=>cases this
   ·rcases hH id e e2 with h | ⟨l0,off,q3,q4,q5⟩
    ·rw [h] at hl;exact (iK jO (Nat.le_succ _) _ (ho.H id _ hl)).2
    ·rw [q5] at hl;cases hl;have hw:=(iK jO (Nat.le_succ s.N) _ (show iz s.H s.N l0 from ho.H id _ q3)).2;refine dg.2 fun x hx=>?_;rcases List.mem_or_eq_of_mem_set hx with h | h
     ·exact dg.1 hw x h
     ·rw [h];simp only [TA.wf];omega
 ·obtain ⟨c,hc,hv,rfl⟩:=iy hb;by_cases e:id=s.N
  ·subst e;rw [hN] at hc;cases hc;exact ⟨_,by simp only [Hp.dh,if_true];rfl,fun h=>h,fun o h=>h⟩
  ·by_cases e2:id=j
   ·subst e2;have:=mQ _ hc;rw [this] at hv;cases hv
   ·have eu:(s.st.H.dh [(s.N,some (.row v.b (fx ty) xs.length (bV v ty xs))),(j,none)]) id=s.st.H id:=by simp only [Hp.dh,if_neg e,if_neg e2]
    rw [eu];rcases hH id e e2 with h | ⟨l0,off,q3,q4,q5⟩
    ·rw [h] at hc;refine ⟨_,dG hc hv,?_⟩;rw [show (bP.H ⟨s.nt,s.N+1,Ux,H'⟩)=H' from rfl,qL jO (ho.H id _ hc)];exact ⟨fun h=>h,fun o h=>h⟩
    ·rw [q5] at hc;cases hc;refine ⟨_,dG q3,fun _=>rfl,fun o ⟨cs,t,m1,m2,m3,m4⟩=>⟨cs,t,m1,m2,?_,fun k hk=>?_⟩⟩
     ·rw [bG] at m3 ⊢;simpa using m3
     ·rw [bG] at hk;have Qg:k < l0.length:=by simpa using hk
      have m5:=m4 k (by rw [bG];exact Qg);rw [dO _ _ _ Qg] at m5;rw [dO _ _ _ hk];show VR w F bD _ (((l0.set off (.ow s.N)).getD k .top).av H') _;by_cases e3:off=k
      ·subst e3;have e4:(l0.set off (.ow s.N)).getD off .top=.ow s.N:=by simp [List.getD,Qg]
       rw [q4,ej] at m5;rw [e4,eN];exact h3 _ m5
      ·have e4:(l0.set off (.ow s.N)).getD k .top=l0.getD k .top:=by simp [List.getD,List.getElem?_set_ne e3]
       rw [e4,(jR jO (Nat.le_refl _) _ (Cy (show iz s.H s.N l0 from ho.H id _ q3) k)).1];exact m5
 ·show VR w F _ _ ((look Ux t).av H') _;have hv:=hs.tm t;rcases htm t with e | ⟨e0,e⟩
  ·rw [e,(jR jO (Nat.le_refl _) _ (ho.tm t)).1];exact stp hv
  ·rw [e,eN];have I2:VR w F μ (below s.N) ((look s.tm t).av s.H) (a.tmps.getD t undef):=hv;rw [e0,ej] at I2;exact h3 _ (stp I2)
theorem aa1 {s:bP} {a:Act} (p:Place) (ho:s.ok) (hs:SR w F O μ (below s.N) s.st ft a):(C_ s p).ok∧s.N≤(C_ s p).N∧(C_ s p).nt=s.nt∧
  Sub s.H (C_ s p).H s.N∧∃ bD bY,SR w F O bD (below (C_ s p).N) (C_ s p).st bY a∧Fr w F O μ (below s.N) w F O bD:=by
 have same:s.ok∧s.N≤s.N∧s.nt=s.nt∧Sub s.H s.H s.N∧∃ bD bY,SR w F O bD (below s.N) s.st bY a∧Fr w F O μ (below s.N) w F O bD:=⟨ho,Nat.le_refl _,rfl,Sub.refl _ _,μ,ft,hs,Fr.refl _ _ _ _ _⟩;have key:∀ (ty:Ty) (v:RV) (Ux:List (Nat×TA)) (H':List (Nat×aY)),v.b=true→Sub s.H H' s.N→aT H' s.N=some (.row ty v [])→(∀ t,look Ux t=look s.tm t∨(look s.tm t=.fA∧look Ux t=.ow s.N))→
   (∀ id,id≠s.N→aT H' id=aT s.H id∨∃ l off,aT s.H id=some (.box l)∧l.getD off .top=.fA∧aT H' id=some (.box (l.set off (.ow s.N))))→
   bP.ok ⟨s.nt,s.N+1,Ux,H'⟩∧s.N≤s.N+1∧s.nt=s.nt∧Sub s.H H' s.N∧∃ bD bY,SR w F O bD (below (s.N+1)) (bP.st ⟨s.nt,s.N+1,Ux,H'⟩) bY a∧Fr w F O μ (below s.N) w F O bD:=by
  intro ty v Ux H' hvb jO hN htm hH;obtain ⟨h1,h2⟩:=aa0 (s:=s) (a:=a) ty v hs;have W2:∀ {w F bD K' v},VR w F bD K' .fA v→VR w F bD K' ((TA.ow s.N).av H') v:=fun {w F bD K' v} hv=>by
   rw [hv.qa];simp only [TA.av,hN,fG,List.length_nil,hvb,du];exact .s8 _ _ _
  have aey:∀ {bD K' v},VR w F bD K' .fA v→VR w F bD K' ((TA.ow s.N).av H') v:=fun {bD K' v} hv=>W2 hv;have stp:∀ {x v},VR w F μ (below s.N) x v→VR w F (Ia μ s.N 0) (below (s.N+1)) x v:=fun hx=>hx.step hs.hr h2 fun id (h:id < s.N)=>(by show id < s.N+1;omega);refine ⟨⟨fun t=>?_,fun id l hl=>?_⟩,Nat.le_succ _,rfl,jO,_,ft,⟨h1.imp fun id b' hb=>?_,hs.nt,fun t=>?_,hs.df⟩,h2⟩
  ·show (look Ux t).wf H' (s.N+1);rcases htm t with e | ⟨_,e⟩
   ·rw [e];exact (jR jO (Nat.le_succ _) _ (ho.tm t)).2
   ·rw [e];simp only [TA.wf];omega
  ·have hl:aT H' id=some l:=hl;by_cases e:id=s.N
   ·rw [e,hN] at hl;cases hl;simp only [aY.refs,iz]
   ·rcases hH id e with h | ⟨l0,off,h3,h4,h5⟩
    ·rw [h] at hl;exact (iK jO (Nat.le_succ _) _ (ho.H id _ hl)).2
    ·rw [h5] at hl;cases hl;have hw:=(iK jO (Nat.le_succ s.N) _ (show iz s.H s.N l0 from ho.H id _ h3)).2;refine dg.2 fun x hx=>?_;rcases List.mem_or_eq_of_mem_set hx with h | h
     ·exact dg.1 hw x h
     ·rw [h];simp only [TA.wf];omega
  ·obtain ⟨c,hc,hv,rfl⟩:=iy hb;by_cases e:id=s.N
   ·subst e;rw [hN] at hc;cases hc;refine ⟨_,by rw [Hp.Cr,if_pos rfl],?_⟩;simp only [aY.dC,hvb,List.length_nil];exact eQ.refl _
   ·rw [Hp.Cr,if_neg e];rcases hH id e with h | ⟨l0,off,h3,h4,h5⟩
    ·rw [h] at hc;refine ⟨_,dG hc hv,?_⟩;rw [show (bP.H ⟨s.nt,s.N+1,Ux,H'⟩)=H' from rfl,qL jO (ho.H id _ hc)];exact eQ.refl _
    ·rw [h5] at hc;cases hc;refine ⟨_,dG h3,?_⟩;simp only [aY.dC];refine Tt (by rw [bG,bG];simp) fun k hk=>?_;rw [bG] at hk;have Qg:k < l0.length:=by simpa using hk
     rw [dO _ _ _ Qg,dO _ _ _ hk];intro w1 F1 KB K1 v1 JH;by_cases e2:off=k
     ·subst e2;have e3:(l0.set off (.ow s.N)).getD off .top=.ow s.N:=by simp [List.getD,Qg]
      rw [h4] at JH;simp only [TA.av] at JH;show VR w1 F1 KB K1 (((l0.set off (.ow s.N)).getD off .top).av H') v1;rw [e3];exact W2 JH
     ·have e3:(l0.set off (.ow s.N)).getD k .top=l0.getD k .top:=by simp [List.getD,List.getElem?_set_ne e2]
      show VR w1 F1 KB K1 (((l0.set off (.ow s.N)).getD k .top).av H') v1;rw [e3,(jR jO (Nat.le_refl _) _ (Cy (show iz s.H s.N l0 from ho.H id _ h3) k)).1];exact JH
  ·show VR w F _ _ ((look Ux t).av H') _;have hv:=hs.tm t;rcases htm t with e | ⟨e0,e⟩
   ·rw [e,(jR jO (Nat.le_refl _) _ (ho.tm t)).1];exact stp hv
   ·rw [e];have I2:VR w F μ (below s.N) ((look s.tm t).av s.H) (a.tmps.getD t undef):=hv;rw [e0] at I2;simp only [TA.av] at I2;exact aey (stp I2)
 cases p with
 | tm t ty v=>
  simp only [C_];split
  ·rename_i h0 hvb;refine key ty v _ _ hvb nK (by rw [qc,if_pos rfl]) (fun u=>?_) fun id e=>.inl (by rw [qc,if_neg e]);simp only [look];cases e:Nat.beq u t with
   | true=>rw [Nat.eq_of_beq_eq_true e];exact .inr ⟨h0,rfl⟩
   | false=>exact .inl rfl
  ·exact same
 | cell rS off ty v=>
  simp only [C_];split
  ·rename_i l hl hvb;split
   ·rename_i h0;have qJ:rS≠s.N:=fun e=>by
     have:=hs.hr.known rS _ (dG hl);simp only [below] at this;omega
    refine key ty v _ _ hvb (fun id bZ=>?_) ?_ (fun u=>.inl rfl) fun id e=>?_
    ·simp only [cD,aT];cases e:Nat.beq id rS with
     | true=>rw [Nat.eq_of_beq_eq_true e,hl];rfl
     | false=>simp only [cd (show ¬ id=s.N by omega)]
    ·simp only [cD,aT,cd (show ¬ s.N=rS from fun h=>qJ h.symm),Nat.beq_refl]
    ·simp only [cD,aT];cases e2:Nat.beq id rS with
     | true=>rw [Nat.eq_of_beq_eq_true e2];exact .inr ⟨l,off,hl,h0,rfl⟩
     | false=>exact .inl (by simp only [cd e])
   ·exact same
  ·exact same
 | dH rS off=>
  simp only [C_];split
  ·rename_i l hl;split
   ·rename_i j h0;split
    ·rename_i ty v xs hj;have qJ:rS≠s.N:=fun e=>by
      have:=hs.hr.known rS _ (dG hl);simp only [below] at this;omega
     have hjN:j < s.N:=hs.hr.known j _ (dG hj);have JJ:rS≠j:=fun e=>by subst e;rw [hl] at hj;cases hj
     refine Qr ho hs hj (fun id bZ=>?_) ?_ (fun b hb=>?_) (fun u=>.inl rfl) fun id e e2=>?_
     ·simp only [cD,aT];cases e:Nat.beq id rS with
      | true=>rw [Nat.eq_of_beq_eq_true e,hl];rfl
      | false=>
       simp only [cd (show ¬ id=s.N by omega)];cases e3:Nat.beq id j with
       | true=>simp only [fG];rw [Nat.eq_of_beq_eq_true e3]
       | false=>rfl
     ·simp only [cD,aT,cd (show ¬ s.N=rS from fun h=>qJ h.symm),Nat.beq_refl]
     ·simp only [cD,aT,cd (show ¬ j=rS from fun h=>JJ h.symm),cd (show ¬ j=s.N by omega),Nat.beq_refl,Option.some.injEq] at hb;rw [← hb];rfl
     ·simp only [cD,aT];cases e3:Nat.beq id rS with
      | true=>rw [Nat.eq_of_beq_eq_true e3];exact .inr ⟨l,off,hl,h0,rfl⟩
      | false=>exact .inl (by simp only [cd e,cd e2])
    ·exact same
   ·exact same
  ·exact same
 | aew t=>
  simp only [C_];split
  ·rename_i j h0;split
   ·rename_i ty v xs hj;have hjN:j < s.N:=hs.hr.known j _ (dG hj);refine Qr ho hs hj (fun id bZ=>?_) ?_ (fun b hb=>?_) (fun u=>?_) fun id e e2=>?_
    ·simp only [cD,aT,cd (show ¬ id=s.N by omega)];cases e3:Nat.beq id j with
     | true=>simp only [fG];rw [Nat.eq_of_beq_eq_true e3]
     | false=>rfl
    ·simp only [cD,aT,Nat.beq_refl]
    ·simp only [cD,aT,cd (show ¬ j=s.N by omega),Nat.beq_refl,Option.some.injEq] at hb;rw [← hb];rfl
    ·simp only [look];cases e:Nat.beq u t with
     | true=>rw [Nat.eq_of_beq_eq_true e];exact .inr ⟨h0,rfl⟩
     | false=>exact .inl rfl
    ·exact .inl (by simp only [cD,aT,cd e,cd e2])
   ·exact same
  ·exact same
theorem Jz {a:Act}:∀ (L:List Place) {s:bP} {μ:Nat→Nat} {ft:Nat→Nat→Prop},s.ok→SR w F O μ (below s.N) s.st ft a→(BA s L).ok∧s.N≤(BA s L).N∧(BA s L).nt=s.nt∧
  Sub s.H (BA s L).H s.N∧∃ bD bY,SR w F O bD (below (BA s L).N) (BA s L).st bY a∧Fr w F O μ (below s.N) w F O bD
 | [],s,μ,ft,ho,hs=>⟨ho,Nat.le_refl _,rfl,Sub.refl _ _,μ,ft,hs,Fr.refl _ _ _ _ _⟩
 | p::r,s,μ,ft,ho,hs=>by
  obtain ⟨h1,h2,h3,h6,KB,Ww,h4,h5⟩:=aa1 p ho hs;obtain ⟨k1,k2,k3,k6,Gk,Lt,k4,k5⟩:=Jz r h1 h4;exact ⟨k1,Nat.le_trans h2 k2,k3.trans h3,(fun id bZ=>(k6 id (Nat.lt_of_lt_of_le bZ h2)).trans (h6 id bZ)),Gk,Lt,k4,h5.trans (k5.OR fun id (bZ:id < s.N)=>(show id < (C_ s p).N by omega))⟩
def y7 (m0:Nat) (db:List Bp) (id:Nat):Nat→List wx→List TA→List Place
 | off,.ow j::ps,.fA::as=>match db[j]? with
  | some (.row ty v)=>.cell id off ty v::y7 m0 db id (off+1) ps as
  | _=>y7 m0 db id (off+1) ps as
 | off,.ow j::ps,.ow i::as=>match Nat.ble m0 j&&Nat.blt i m0 with
  | true=>.dH id off::y7 m0 db id (off+1) ps as
  | false=>y7 m0 db id (off+1) ps as
 | off,.d _::ps,.ow i::as=>match Nat.blt i m0 with
  | true=>.dH id off::y7 m0 db id (off+1) ps as
  | false=>y7 m0 db id (off+1) ps as
 | off,_::ps,_::as=>y7 m0 db id (off+1) ps as
 | _,_,_=>[]
def adf (m0:Nat) (db:List Bp) (H:List (Nat×aY)) (j id:Nat):List Place:=match db[j]?,aT H id with
 | some (.box ps),some (.box l)=>y7 m0 db id 0 ps l
 | _,_=>[]
def PB (m0:Nat) (db:List Bp) (s:bP):List (Nat×wx)→List Place
 | []=>[]
 | (t,.ow j)::r=>match look s.tm t with
  | .fA=>match db[j]? with
   | some (.row ty v)=>.tm t ty v::PB m0 db s r
   | _=>PB m0 db s r
  | .ow i=>match Nat.ble m0 j&&Nat.blt i m0 with
   | true=>.aew t::PB m0 db s r
   | false=>PB m0 db s r
  | _=>PB m0 db s r
 | (t,.bp j _)::r=>match look s.tm t with
  | .bp id _=>adf m0 db s.H j id++PB m0 db s r
  | _=>PB m0 db s r
 | _::r=>PB m0 db s r
def Ow (m0:Nat) (db:List Bp) (s:bP):Nat→List Place
 | 0=>[]
 | m+1=>adf m0 db s.H m m++Ow m0 db s m
def aa2 (f:jS) (m0:Nat) (J:L7 f.eR (Option R)) (s:bP):Option R:=match aej (BA s (Ow m0 f.db s m0++PB m0 f.db s f.YZ)) m0 f with
 | some ds=>match o7 f.eR ds with
  | some x=>yG f.eR J x
  | none=>none
 | none=>none
def Da (f:jS) (m0:Nat) (J:L7 f.eR (Option R)) (s:bP):Option R:=aa2 f m0 J (tg s (z7 s.H))
def EY (f:jS) (nt:Nat) (X:bP→Option R):L7 f.eR (Option R):=Xl f.eR fun x=>match instF nt f (fo f.eR x) with
 | some s=>X s
 | none=>none
def VV (ps:List Nat) (nt:Nat) (f:jS) (m0:Nat) (D1 D2:Nat→bP→Ks R→Option R) (ks:Ks R) (ds:List cN) (J:L7 f.eR (Option R)):L7 f.eR (Option R):=
 EY f nt fun s'=>D1 s'.N (s'.args ps ds) ⟨fun s1=>D2 s'.N s1 ⟨fun s2=>Da f m0 J (s'.back s2),fun i s2=>ks.x i (s'.back s2),fun s2=>ks.r (s'.back s2),fun _ _=>none⟩,fun _ _=>none,fun _=>none,fun _ _=>none⟩
def VW (E:Env) (A:Ann) (m0:Nat) (ok:Bool) (ps:List Nat) (D1 D2:Nat→bP→Ks R→Option R) (fr:Option jS) (k:Nat) (s:bP) (ks:Ks R):TA→Option R
 | .fn (.func fi) [] Ay=>match fr,ok&&ps.all (fun t=>t.blt s.nt) with
  | some f,true=>R8 s.H fi Ay (A.it k) fun c xs=>match Nat.beq ps.length c.eR.length with
   | true=>Da f m0 (Ig (fun y=>VV ps s.nt f m0 D1 D2 ks (fo c.eR y)) (EY f s.nt ks.n) xs) s
   | false=>none
  | _,_=>none
 | _=>none
def adg (E:Env) (bN:List CT) (ops:List Oper) (B:Array Nat) (fj:List (Nat×List Nat)) (s:bP) (κ:bP→Option R):Option R:=match Ox ops with
 | some _=>match fj with
  | (_,[id])::_=>R9 E bN ops B id s κ
  | _=>none
 | none=>VS E bN ops B fj s κ
def den (E:Env) (bN:Nat→List CT) (A:Ann):Nat→Code→Nat→bP→Ks R→Option R
 | m0,.skip,_,s,ks=>ks.n s
 | m0,.region _ ⟨ops⟩ false,k,s,ks=>Jt E (bN k) ⟨ops⟩ ops s ks.n ks.p
 | m0,.region id ⟨ops⟩ true,k,s,ks=>match afE A.draw id with
  | some (B,fj)=>adg E (bN k) ops ⟨B⟩ fj s ks.n
  | none=>none
 | m0,.seq x y,k,s,ks=>match acD A.join y with
  | some f=>share (EY f s.nt fun s'=>den E bN A m0 y k s' ks) fun J=>den E bN A m0 x k s { ks with n:=Da f m0 J }
  | none=>den E bN A m0 x k s { ks with n:=fun s'=>den E bN A m0 y k s' ks }
 | m0,.cond c x y,k,s,ks=>match s.val c with
  | .d ⟨.bool,b⟩=>cond b (den E bN A m0 x k s ks) (den E bN A m0 y k s ks)
  | _=>none
 | m0,.block id c,k,s,ks=>den E bN A m0 c k s { ks with x:=fun i s'=>match Nat.beq i id with
  | true=>ks.n s'
  | false=>ks.x i s' }
 | m0,.loop c,k,s,ks=>match acD A.loop c with
  | some f=>Da f m0 (iter k fun k' rec=>EY f s.nt fun s'=>den E bN A m0 c k' s' { ks with n:=Da f m0 rec }) s
  | none=>none
 | m0,.exit id,_,s,ks=>ks.x id s
 | m0,.ret,_,s,ks=>ks.r s
 | m0,.scope c,k,s,ks=>den E bN A m0 c k s ks
 | m0,.label _,_,s,ks=>ks.n s
 | m0,.rangeFunc g ⟨ps⟩ x y,k,s,ks=>VW E A m0 (wy x&&wy y) ps (fun m s ks=>den E bN A m x k s ks) (fun m s ks=>den E bN A m y k s ks) (acD A.loop x) k s ks (s.val g)
 | _,_,_,_,_=>none
def Ks.at (ks:Ks R) (z:R) (e:Exit) (s':bP) (w':World) (F':Nat→Prop) (bD:Nat→Nat):Prop:=match e with
 | .normal=>ks.n s'=some z
 | .exit i=>ks.x i s'=some z
 | .ret=>ks.r s'=some z
 | .panic l=>∃ u v,l=[{ v:=u,recovered:=false }]∧ks.p v s'=some z∧v.wf s'.H s'.N∧VR w' F' bD (below s'.N) (v.av s'.H) u
 | _=>False
def GM (ks:Ks R) (z:R) (w:World) (F O:Nat→Prop) (μ:Nat→Nat) (m0:Nat) (nt:Nat×Nat):Exit→Act→World→Prop:=fun e a' w'=>
 ∃ s' F' O' bD bY,zh w F O μ m0 nt s' a' w' F' O' bD bY∧ks.at z e s' w' F' bD
theorem GM.trans {ks:Ks R} {z:R} {m0:Nat} {nt:Nat×Nat} (hf:Fr w F O μ (below m0) w' F' O' bD) (e:Exit) (a:Act) (xh:World) (h:GM ks z w' F' O' bD m0 nt e a xh):GM ks z w F O μ m0 nt e a xh:=by
 obtain ⟨s',Bn,vW,lF,bY,h1,h2⟩:=h;exact ⟨s',Bn,vW,lF,bY,h1.trans hf,h2⟩
theorem aa3 {f:jS} {m0:Nat} {J:L7 f.eR (Option R)} {s:bP} {z:R} {a:Act} (h:aa2 f m0 J s=some z) (ho:s.ok) (hm:m0≤s.N) {n0:Nat×Nat} (hn:Pz n0 s a) (hs:SR w F O μ (below s.N) s.st ft a):
  ∃ x s',yG f.eR J x=some z∧instF s.nt f (fo f.eR x)=some s'∧∃ F' O' bD bY,zh w F O μ m0 n0 s' a w F' O' bD bY:=by
 unfold aa2 at h;split at h
 ·rename_i ds tq;split at h
  ·rename_i x hx;obtain ⟨v1,v2,v3,_,KB,Ww,v4,v5⟩:=Jz (Ow m0 f.db s m0++PB m0 f.db s f.YZ) ho hs;obtain ⟨s',h1,h2,h3,h4,h5⟩:=aaJ tq (Nat.le_trans hm v2);obtain ⟨F',O',bD,bY,k1,k2⟩:=h5 v4;exact ⟨x,s',h,by rw [mj hx,← v3];exact h1,F',O',bD,bY,h2,h4,hn.to (h3.trans v3),k1,(v5.OR fun id (bZ:id < m0)=>(show id < s.N by omega)).trans k2⟩
  ·cases h
 ·cases h
theorem BB {f:jS} {m0:Nat} {J:L7 f.eR (Option R)} {s:bP} {z:R} {a:Act} (h:Da f m0 J s=some z) (ho:s.ok) (hm:m0≤s.N) {n0:Nat×Nat} (hn:Pz n0 s a) (hs:SR w F O μ (below s.N) s.st ft a):
  ∃ x s',yG f.eR J x=some z∧instF s.nt f (fo f.eR x)=some s'∧∃ F' O' bD bY,zh w F O μ m0 n0 s' a w F' O' bD bY:=by
 obtain ⟨y1,y2,y3,_,Ww,y4⟩:=Jj (z7 s.H) ho hs;unfold Da at h;generalize tg s (z7 s.H)=s0 at h y1 y2 y3 y4;rw [← y2] at y4;have:=aa3 h y1 (by rw [y2];exact hm) (hn.to y3) y4;rw [y3] at this;exact this
theorem BC {f:jS} {nt:Nat} {X:bP→Option R} {x:zf f.eR} {s':bP} (h:instF nt f (fo f.eR x)=some s'):yG f.eR (EY f nt X) x=X s':=by
 unfold EY;rw [xH,h]
def z_ (r:Option Nat) (P:Program) (c:Code) (Q:Exit→Act→World→Prop) (a:Act) (w:World):Prop:=
 ∀ (b:Frame) (k:List Item) (cs:List Frame),b.roundOf=r→∃ e a' w',Q e a' w'∧ArrivesIn (Machine.fenced P (Wr r)) P (lone (b.atR a (.code c::.inLoop c::k)) cs w) b k cs e a' w'
theorem Aa {r:Option Nat} {m:Machine}:m.fenced P (Wr r):=fenced_wide P m
theorem z_.wp {r:Option Nat} {c:Code} {Q:Exit→Act→World→Prop} {a:Act} (h:z_ r P c Q a w):(Code.loop c).wpIn (Wr r) 0 P Q a w:=by
 intro b k cs hb _ _;obtain ⟨e,a',w',hq,H7⟩:=h b k cs hb;exact ⟨e,a',w',hq,.of_steps (.one Aa stepR_loop) H7⟩
theorem z_.round {r:Option Nat} {c:Code} {Q:Exit→Act→World→Prop} {a:Act} (h:c.wpIn (Wr r) 0 P (Exit.then (z_ r P c Q) Q) a w):z_ r P c Q a w:=by
 intro b k cs hb;obtain ⟨e,Oy,Oz,hq,H7⟩:=h b (.inLoop c::k) cs hb trivial (room_wide _);cases e with
 | normal=>
  obtain ⟨ag4,ag5,ag6,afF,acE⟩:=hq b k cs hb;exact ⟨ag4,ag5,ag6,afF,.of_steps (StepsIn.trans H7 (.one Aa stepR_inLoop)) acE⟩
 | exit id=>exact ⟨_,Oy,Oz,hq,.pass (x:=.inLoop c) rfl (fun _ _=>.inl (by simp)) H7⟩
 | goto l=>exact ⟨_,Oy,Oz,hq,.pass (x:=.inLoop c) rfl (fun _ _=>.inl (by simp)) H7⟩
 | ret=>exact ⟨_,Oy,Oz,hq,.pass (x:=.inLoop c) rfl (fun _ _=>.inl (by simp)) H7⟩
 | panic ch=>exact ⟨_,Oy,Oz,hq,.pass (x:=.inLoop c) rfl (fun _ _=>.inl (by simp)) H7⟩
 | outgrown=>exact ⟨_,Oy,Oz,hq,.pass (x:=.inLoop c) rfl (fun _ _=>.inl (by simp)) H7⟩
theorem z_.mono {r:Option Nat} {c:Code} {Q Q':Exit→Act→World→Prop} {a:Act} (hq:∀ e a w,Q e a w→Q' e a w) (h:z_ r P c Q a w):z_ r P c Q' a w:=fun b k cs hb=>
 let ⟨e,a',w',q,r⟩:=h b k cs hb;⟨e,a',w',hq _ _ _ q,r⟩
theorem v_ {b:Frame} {a:Act} {k:List Item} {cs:List Frame} {c:Code}:step P (lone (b.atR a (.code (.scope c)::k)) cs w)=.next (lone (b.atR a (.code c::.inScope c::k)) cs w):=
 step_lone_go (by simp [stepG,stepG.exec,Frame.atR])
theorem PC {b:Frame} {a:Act} {k:List Item} {cs:List Frame} {c:Code}:step P (lone (b.atR a (.inScope c::k)) cs w)=.next (lone (b.atR a k) cs w):=
 step_lone_go (by simp [stepG,stepG.exec,Frame.atR])
theorem Gn {r:Option Nat} {c:Code} {Q:Exit→Act→World→Prop} {a:Act} (h:c.wpIn (Wr r) 0 P (Exit.noGoto Q) a w):(Code.scope c).wpIn (Wr r) 0 P Q a w:=by
 intro b k cs hb h1 h2;obtain ⟨e,Oy,Oz,hq,H7⟩:=h b (.inScope c::k) cs hb h1 h2;have e1:∀ i,exitTo i (.inScope c::k)=exitTo i k:=fun i=>by simp [exitTo]
 cases e with
 | normal=>exact ⟨.normal,Oy,Oz,hq,.head Aa v_ (StepsIn.trans H7 (.one Aa PC))⟩
 | exit id=>exact ⟨.exit id,Oy,Oz,hq,.of_steps (.one Aa v_) ⟨fun k' hk=>H7.1 k' (by rw [e1];exact hk),fun hr hk=>H7.2 hr (by rw [e1];exact hk)⟩⟩
 | goto l=>exact hq.elim
 | ret=>exact ⟨_,Oy,Oz,hq,.of_steps (.one Aa v_) H7⟩
 | panic ch=>exact ⟨_,Oy,Oz,hq,.of_steps (.one Aa v_) H7⟩
 | outgrown=>exact ⟨_,Oy,Oz,hq,.of_steps (.one Aa v_) H7⟩
def aa4 (P:Program) (z:R) (D:Nat→Nat→bP→Ks R→Option R) (c:Code) (K0:Nat):Prop:=
 ∀ (m0:Nat) (n0:Nat×Nat) (ro:Option Nat) (k:Nat) (s:bP) (ks:Ks R),D m0 k s ks=some z→(ro=none∨wy c=true)→k≤K0→s.ok→m0≤s.N→
  ∀ {w:World} {F O:Nat→Prop} {μ:Nat→Nat} {ft:Nat→Nat→Prop} {a:Act},n0.2≤w.heap.size→Pz n0 s a→SR w F O μ (below s.N) s.st ft a→c.wpIn (Wr ro) 0 P (GM ks z w F O μ m0 n0) a w
theorem R_ (w:World) (o1 o2:Obj):Gw w ((w.alloc o1).alloc o2) where
 os:=rfl
 tape:=rfl
 output:=rfl
 size:=by simp;omega
 same:=fun b hb=>by rw [Below.heap_alloc _ _ _ (by simp;omega),Below.heap_alloc _ _ _ hb]
theorem HR.more {H:Hp} (h:HR w F O μ K H ft) (hF:∀ b,F b→F' b) (hw:∀ b,F' b→b < w.heap.size) (hO:∀ b,O b→¬ F' b):HR w F' O μ K H ft where
 lt:=h.lt
 known:=h.known
 dC:=fun id b hb hl=>by
  obtain ⟨o,ho,hB⟩:=h.dC id b hb hl;exact ⟨o,ho,hB.mono (fun _ _=>rfl) hF (fun _ _=>rfl) (fun _ h=>h) (fun _ _=>rfl) fun _ _ _=>rfl⟩
 self:=h.self
 own:=h.own
 dj:=h.dj
 y9:=hO
 wf:=hw
 rR:=h.rR
 pos:=h.pos.mono (Nat.le_refl _) hF fun _ _=>rfl
theorem aa5 {E:Env} {A:Ann} {z:R} {K0 m0:Nat} {n0:Nat×Nat} {D1 D2:Nat→Nat→bP→Ks R→Option R} {x y:Code} {ps:List Nat} {g:Operand} {k:Nat} {s:bP} {ks:Ks R} {fr:Option jS} {a:Act} (hI:∀ k,k≤K0→∀ c,c∈A.it k→JX E.P c)
  (ih1:aa4 E.P z D1 x K0) (ih2:aa4 E.P z D2 y K0) (h:VW E A m0 (wy x&&wy y) ps (fun m s ks=>D1 m k s ks) (fun m s ks=>D2 m k s ks) fr k s ks (s.val g)=some z)
  (xo:k≤K0) (ho:s.ok) (hm:m0≤s.N) (fT:n0.2≤w.heap.size) (hn:Pz n0 s a) (hs:SR w F O μ (below s.N) s.st ft a):
  (Code.rangeFunc g ⟨ps⟩ x y).wpIn (Wr none) 0 E.P (GM ks z w F O μ m0 n0) a w:=by
 unfold VW at h;split at h
 ·rename_i fi Ay hg;split at h
  ·rename_i f o9;simp only [Bool.and_eq_true] at o9;obtain ⟨⟨hx,hy⟩,hps⟩:=o9;obtain ⟨c,ds,xv,xs,hc,hf,he,hcx,hL,h0⟩:=LB h;clear h;split at h0
   ·rename_i hlen;have hlen:=Nat.eq_of_beq_eq_true hlen;subst hf;obtain ⟨d,s',h1,h2,F1,O1,KB,Ww,hh⟩:=BB h0 ho hm hn hs;obtain ⟨Ug,afG⟩:=hI k xo c hc;have hgv:=bX hg hs;simp only [TA.av,er] at hgv;obtain ⟨v0,us,EK,Y0,RA⟩:=hgv.Ko;have Y0:=Y0.iJ;subst Y0;obtain ⟨cas,ca1,ca2⟩:=OA he
    let aez:Loop:={ state:=.ready,pending:=none,fn:=0,tmps:=a.tmps,params:=⟨ps⟩,assign:=x,body:=y,defers:=w.heap.size }
    let aM:Act:={ a with defers:=[yS w.heap.size]++a.defers }
    refine wpIn_rangeFunc fun fn _=>?_
    let CG:Loop:={ aez with fn:=fn }
    let W1:World:=(w.alloc (.deferred (some []))).alloc (.loop CG)
    have gw:Gw w W1:=R_ w _ _;have hW1:W1.heap.size=w.heap.size+2:=by simp [W1]
    have ag7:W1.heap[w.heap.size+1]?=some (.loop CG):=by
     have:=World.alloc_heap_new (w.alloc (.deferred (some []))) (.loop CG);simpa [W1] using this
    have afH:W1.heap[w.heap.size]?=some (.deferred (some [])):=by
     have e:W1.heap[w.heap.size]?=(w.alloc (.deferred (some []))).heap[w.heap.size]?:=Below.heap_alloc _ _ _ (by simp);rw [e];exact World.alloc_heap_new w _
    have hdf:wq W1 F1 O1 aM.defers:=by
     refine ⟨List.nodup_cons.2 ⟨fun KL=>?_,hh.sr.df.nd⟩,fun d' NN=>?_⟩
     ·obtain ⟨b,e1,_,_,e4⟩:=hh.sr.df.all _ KL;have e:w.heap.size=b:=by simpa [yS] using e1
      have:=(Array.getElem?_eq_some_iff.1 e4).1;omega
     ·rcases List.mem_cons.1 NN with e | e
      ·exact ⟨w.heap.size,e,fun h=>by have:=hh.sr.hr.rR _ h;omega,fun h=>by have:=hh.sr.hr.wf _ h;omega,afH⟩
      ·obtain ⟨b,e1,e2,e3,e4⟩:=hh.sr.df.all _ e;exact ⟨b,e1,e2,e3,by rw [gw.same b (Array.getElem?_eq_some_iff.1 e4).1];exact e4⟩
    have hmk:∀ b,yS b∈aM.defers→b < W1.heap.size:=fun b hb=>by
     obtain ⟨b',e1,_,_,e4⟩:=hdf.all _ hb;have e:b=b':=by simpa [yS] using e1
     rw [e];exact (Array.getElem?_eq_some_iff.1 e4).1
    have ag8:∀ {s1:bP},Pz n0 s1 a→Pz n0 s1 aM:=fun h=>⟨h.1,fun b hb=>by
     rcases List.mem_cons.1 hb with e | e
     ·have e:b=w.heap.size:=by simpa [yS] using e
      omega
     ·exact h.2 b e⟩
    have hh1:zh w F O μ m0 n0 s' aM W1 F1 O1 KB Ww:=⟨hh.ok,hh.le,ag8 hh.nt,⟨hh.sr.hr.gw gw,hh.sr.nt,fun t=>(hh.sr.tm t).step hh.sr.hr gw.fr fun _ h=>h,hdf⟩,hh.fr.trans gw.fr⟩
    let L:Nat:=w.heap.size+1
    let body:zf c.eR→L7 f.eR (Option R)→L7 f.eR (Option R):=fun q=>VV ps s.nt f m0 (fun m s ks=>D1 m k s ks) (fun m s ks=>D2 m k s ks) ks (fo c.eR q)
    let done:L7 f.eR (Option R):=EY f s.nt ks.n
    let J:List (zf c.eR)→World→(Nat→Prop)→(Nat→Prop)→Prop:=fun ys w' Fi Oi=>∃ (Fo Oo:Nat→Prop) (Y3:Nat→Nat) (fto:Nat→Nat→Prop) (st:LoopState) (p:Option Code) (H8:bP),
     w'.heap[L]?=some (.loop { CG with state:=st,pending:=p })∧KR w' Fo Oo L∧(∀ b,Fi b→Fo b)∧(∀ b,Oi b→W1.heap.size≤b∧KR w' Fo Oo b)∧zh w F O μ m0 n0 H8 aM w' Fo Oo Y3 fto∧
     ((st=.ready∧p=none∧∃ d,yG f.eR (Ig body done ys) d=some z∧instF s.nt f (fo f.eR d)=some H8)∨
      (ys=[]∧st=.done∧∃ cj e,p=some cj∧((cj=.ret∧e=Exit.ret)∨∃ i,cj=.exit i∧e=Exit.exit i)∧(∀ (w':World) (F':Nat→Prop) (bD:Nat→Nat),ks.at z e H8 w' F' bD)))
    have hJ0:J xs W1 F1 (fun _=>False):=
     ⟨F1,O1,KB,Ww,.ready,none,s',ag7,⟨by rw [hW1];omega,fun h=>by have:=hh.sr.hr.wf _ h;omega,fun h=>by have:=hh.sr.hr.rR _ h;omega⟩,fun _ h=>h,fun _ h=>h.elim,hh1,.inl ⟨rfl,rfl,d,h1,h2⟩⟩
    have afI:YD J:=by
     rintro ys w1 w2 Fi Oi Fi' Oi' μi ahB Ki ⟨Fo,Oo,Y3,fto,st,p,H8,j1,j2,j3,j4,j5,j6⟩ wf1 wf2 y_
     have hr:=j5.sr.hr;have hL1:W1.heap.size≤w1.heap.size:=by have:=j2.1;rw [hW1];show w.heap.size+2≤_;have:w.heap.size+1 < w1.heap.size:=this;omega
     have noi:∀ b,Fo b∨Oo b→¬ Oi b:=fun b hb hi=>hb.elim (j4 b hi).2.2.1 (j4 b hi).2.2.2;have lt1:∀ b,Fo b∨Oo b→b < w1.heap.size:=fun b hb=>hb.elim (hr.wf b) (hr.rR b);have kp:Kp w1 w2 Fo Oo:=⟨y_.os,y_.tape,y_.output,y_.size,fun b hb=>y_.same b (lt1 b hb) (noi b hb),y_.shape⟩;have hLi:¬ Oi L:=fun h=>by have:=(j4 L h).1;rw [hW1] at this;have:w.heap.size+2≤w.heap.size+1:=this;omega
     have fo':∀ b,(Fo b∨Fi' b)→Fo b∨w1.heap.size≤b∨Oi b:=fun b hb=>hb.elim .inl fun h=>(y_.HF b h).elim (fun h=>.inl (j3 b h)) .inr;have hOo:∀ b,Oo b→¬ (Fo b∨Fi' b):=fun b hb h=>by
      rcases fo' b h with h | h | h
      ·exact hr.y9 b hb h
      ·have:=hr.rR b hb;omega
      ·exact noi b (.inr hb) h
     have hwf:∀ b,(Fo b∨Fi' b)→b < w2.heap.size:=fun b hb=>hb.elim (fun h=>Nat.lt_of_lt_of_le (hr.wf b h) y_.size) (wf2.wf b);have hr2:HR w2 (fun b=>Fo b∨Fi' b) Oo Y3 (below H8.N) H8.st.H fto:=(hr.kp kp).more (fun b h=>.inl h) hwf hOo;refine ⟨fun b=>Fo b∨Fi' b,Oo,Y3,fto,st,p,H8,by rw [y_.same L j2.1 hLi];exact j1,⟨Nat.lt_of_lt_of_le j2.1 y_.size,fun h=>?_,j2.2.2⟩,fun b h=>.inr h,fun b hb=>?_,⟨j5.ok,j5.le,j5.nt,⟨hr2,j5.sr.nt,fun t=>?_,?_⟩,?_⟩,j6⟩
     ·rcases fo' L h with h | h | h
      ·exact j2.2.1 h
      ·have:=j2.1;omega
      ·exact hLi h
     ·have UG:=wf2.rR b hb;rcases y_.EA b hb with h | h
      ·obtain ⟨m1,m2,m3,m4⟩:=j4 b h;exact ⟨m1,UG,fun h=>h.elim m3 (wf2.y9 b hb),m4⟩
      ·exact ⟨Nat.le_trans hL1 h,UG,fun h'=>h'.elim (fun h'=>by have:=hr.wf b h';omega) (wf2.y9 b hb),fun h'=>by have:=hr.rR b h';omega⟩
     ·exact ((j5.sr.tm t).kp hr kp).mono (fun _ _=>rfl) (fun _ h=>.inl h) (fun _ _=>rfl) (fun _ h=>h) fun _ _=>rfl
     ·refine ⟨j5.sr.df.nd,fun d' NN=>?_⟩;obtain ⟨b,e1,e2,e3,e4⟩:=j5.sr.df.all d' NN;have V4:b < w1.heap.size:=(Array.getElem?_eq_some_iff.1 e4).1;have hbi:¬ Oi b:=fun h=>by have:=(j4 b h).1;have:=hmk b (e1▸NN);omega
      refine ⟨b,e1,e2,fun h=>?_,by rw [y_.same b V4 hbi];exact e4⟩;rcases fo' b h with h | h | h
      ·exact e3 h
      ·omega
      ·exact hbi h
     ·have dT:w.heap.size≤w1.heap.size:=by have:=hW1;omega
      refine { os:=y_.os.trans j5.fr.os,tape:=y_.tape.trans j5.fr.tape,output:=y_.output.trans j5.fr.output,size:=Nat.le_trans j5.fr.size y_.size,mu:=j5.fr.mu,As:=fun b h=>.inl (j5.fr.As b h),shape:=fun b hb=>(y_.shape b (by omega)).trans (j5.fr.shape b hb),same:=fun b hb hn=>(y_.same b (by omega) fun h=>by have:=(j4 b h).1;omega).trans (j5.fr.same b hb hn),EA:=j5.fr.EA,HF:=fun b hb=>?_ };rcases fo' b hb with h | h | h
      ·exact j5.fr.HF b h
      ·exact .inr (.inl (by omega))
      ·exact .inr (.inl (by have:=(j4 b h).1;omega))
    have VX:OB E.P L c.eR J:=by
     rintro q r w1 Fi Oi μi vs ⟨Fo,Oo,Y3,fto,st,p,H8,j1,j2,j3,j4,j5,j6⟩ wf1 BM
     rcases j6 with ⟨rfl,rfl,d,d1,d2⟩ | ⟨aer,_⟩
     case inr=>cases aer
     have hvl:vs.length=ps.length:=by rw [← BM.1,List.length_map,GN,hlen]
     refine ⟨fn,_,x,y,run_yield j1 (by simp [CG,aez,hvl]),?_⟩;simp only [CG,aez];rw [acF];have hr:=j5.sr.hr;have hsN:H8.nt=s.nt:=j5.nt.1.trans hn.1.symm;have Bk:SR w1 Fo Oo Y3 (below (H8.args ps (fo c.eR q)).N) (H8.args ps (fo c.eR q)).st fto { tmps:=(ps.zip vs).foldl (fun tmps (t,v)=>tmps.setIfInBounds t v) a.tmps,defers:=[] }:=by
      refine ⟨hr,?_,fun t=>?_,wq.nil⟩
      ·show ((ps.zip vs).foldl (fun tmps (t,v)=>tmps.setIfInBounds t v) a.tmps).size=H8.nt;rw [OC];exact j5.sr.nt
      ·refine W3 (nt:=H8.nt) (vs:=vs) ⟨by simpa using BM.1,fun i hi=>?_⟩ j5.sr.nt (by rw [hsN];exact hps) j5.sr.tm t;exact ((BM.2 i hi).mono (fun _ _=>rfl) j3 (fun _ h=>h.elim) (fun _ h=>h.elim) fun _ h=>h.elim:VR w1 Fo Y3 _ _ _)
     have aeA:(H8.args ps (fo c.eR q)).ok:=⟨Sa j5.ok.tm ps,j5.ok.H⟩;have hd:yG f.eR (body q (Ig body done r)) d=some z:=d1;simp only [body,VV] at hd;rw [BC d2] at hd;have hL1:w.heap.size≤L:=by show w.heap.size≤w.heap.size+1;omega
     refine roundIn_of_wpIn trivial (Code.wpIn_mono ?_ (ih1 H8.N (H8.nt,0) (some L) k _ _ hd (.inr hx) xo aeA (Nat.le_refl _) (Nat.zero_le _) ⟨rfl,fun _ _=>Nat.zero_le _⟩ Bk))
     rintro e a1 w2 ⟨s1,F2,O2,Gk,Lt,k2,hk⟩
     cases e with
     | normal=>
      simp only [Ks.at] at hk;have l2:=j2.step k2.fr;have adh:w2.heap[L]?=some (.loop { CG with state:=.ready,pending:=none }):=by rw [j2.same k2.fr];exact j1
      obtain ⟨ra,afJ⟩:=Ft (r':={ CG with state:=.busy,pending:=none }) adh;refine ⟨_,run_beginRound adh rfl,?_⟩;have kp3:=ra.kp l2.2.1 l2.2.2;have acG:SR (w2.putObj L (.loop { CG with state:=.busy,pending:=none })) F2 O2 Gk (below s1.N) s1.st Lt a1:=⟨k2.sr.hr.kp kp3,k2.sr.nt,fun t=>(k2.sr.tm t).kp k2.sr.hr kp3,ra.df k2.sr.df⟩;have l3:=l2.Ax ra;refine Code.wpIn_mono ?_ (ih2 H8.N (H8.nt,0) (some L) k s1 _ hk (.inr hy) xo k2.ok k2.le (Nat.zero_le _) k2.nt acG)
      rintro e a2 w4 ⟨s2,F4,O4,μ4,ft4,k4,hk4⟩
      have l4:=l3.step k4.fr;have adi:w4.heap[L]?=some (.loop { CG with state:=.busy,pending:=none }):=by rw [l3.same k4.fr];exact afJ
      have fin:∀ (jump:Option Code) (r':Loop),r'={ CG with state:=(if jump.isNone then .ready else .done),pending:=jump }→∃ w5,(Instr.endRound L jump).run E.P w4=.ok (.bool jump.isNone) w5∧w5.heap[L]?=some (.loop r')∧Kp w1 w5 Fi Oi∧KR w5 F4 O4 L∧(∀ b,Fi b→F4 b)∧
        (∀ b,Oi b→W1.heap.size≤b∧KR w5 F4 O4 b)∧(H8.back s2).ok∧zh w F O μ m0 n0 (H8.back s2) aM w5 F4 O4 μ4 ft4:=by
       rintro jump r' rfl
       obtain ⟨rb,afK⟩:=Ft (r':={ CG with state:=(if jump.isNone then .ready else .done),pending:=jump }) adi;have l5:=l4.Ax rb;have kp5:=rb.kp l4.2.1 l4.2.2;have vst:∀ {xx vv},VR w1 Fo Y3 (below H8.N) xx vv→VR (w4.putObj L (.loop { CG with state:=(if jump.isNone then .ready else .done),pending:=jump })) F4 μ4 (below s2.N) xx vv:=fun {xx vv} hv=>by
        have v2:=hv.step hr k2.fr fun id (h:id < H8.N)=>(Nat.lt_of_lt_of_le h k2.le:id < s1.N);have v2':VR w2 F2 Gk (below H8.N) xx vv:=hv.step hr k2.fr fun _ h=>h;have v3:=v2'.mono (w':=w2.putObj L (.loop { CG with state:=.busy,pending:=none })) (F':=F2) (bD:=Gk) (fun b hb=>kp3.LW b (.inl hb)) (fun _ h=>h) (fun _ _=>rfl) (fun _ h=>h) fun id bZ=>kp3.shape _ (k2.sr.hr.lt id (Nat.lt_of_lt_of_le bZ k2.le));have v4:=v3.mono (w':=w4) (F':=F4) (bD:=μ4) (K':=below s2.N) (fun b hb=>k4.fr.frozen acG.hr b hb) k4.fr.As (fun id bZ=>k4.fr.mu id bZ) (fun id (h:id < H8.N)=>Nat.lt_of_lt_of_le h k4.le) fun id bZ=>k4.fr.shape _ (acG.hr.lt id (Nat.lt_of_lt_of_le bZ k2.le));exact v4.kp k4.sr.hr kp5
       have dfr:wq w1 Fo Oo aM.defers:=j5.sr.df;have df5:=rb.df ((ra.df (dfr.step k2.fr)).step k4.fr);have ag9:SR (w4.putObj L (.loop { CG with state:=(if jump.isNone then .ready else .done),pending:=jump })) F4 O4 μ4 (below s2.N) s2.st ft4 a2:=⟨k4.sr.hr.kp kp5,k4.sr.nt,fun t=>(k4.sr.tm t).kp k4.sr.hr kp5,rb.df k4.sr.df⟩;obtain ⟨bk1,bk2⟩:=acH (a:=aM) j5.ok k4.ok j5.sr ag9 vst df5;have OR:∀ id,id < m0→id < H8.N:=fun id h=>Nat.lt_of_lt_of_le h j5.le;have ag_:∀ b,Oi b→KR w4 F4 O4 b:=fun b hb=>(((j4 b hb).2.step k2.fr).Ax ra).step k4.fr;have ne:∀ b,Fi b∨Oi b→b≠L:=fun b hb e=>by
        subst e;exact hb.elim (fun h=>j2.2.1 (j3 _ h)) fun h=>by
         have h1:=(j4 _ h).1;rw [hW1] at h1;have:w.heap.size+2≤w.heap.size+1:=h1;omega
       refine ⟨_,run_endRound jump adi,afK,?_,l5,fun b hb=>k4.fr.As b (k2.fr.As b (j3 b hb)),fun b hb=>⟨(j4 b hb).1,(ag_ b hb).Ax rb⟩,bk1,⟨bk1,Nat.le_trans j5.le k4.le,⟨j5.nt.1,j5.nt.2⟩,bk2,?_⟩⟩
       ·have lt1:∀ b,Fi b∨Oi b→b < w1.heap.size:=fun b hb=>hb.elim (wf1.wf b) (wf1.rR b);have afL:∀ b,Fi b∨Oi b→w2.heap[b]?=w1.heap[b]?:=fun b hb=>hb.elim (fun h=>k2.fr.frozen hr b (j3 b h)) fun h=>(j4 b h).2.same k2.fr;refine ⟨rb.os.trans (k4.fr.os.trans (ra.os.trans k2.fr.os)),rb.tape.trans (k4.fr.tape.trans (ra.tape.trans k2.fr.tape)),rb.output.trans (k4.fr.output.trans (ra.output.trans k2.fr.output)),?_,fun b hb=>?_,fun b hb=>?_⟩
        ·rw [rb.size];exact Nat.le_trans k2.fr.size (Nat.le_trans (Nat.le_of_eq ra.size.symm) k4.fr.size)
        ·rw [rb.same b (ne b hb)];have e4:w4.heap[b]?=(w2.putObj L (.loop { CG with state:=.busy,pending:=none })).heap[b]?:=hb.elim (fun h=>k4.fr.frozen acG.hr b (k2.fr.As b (j3 b h))) fun h=>(((j4 b h).2.step k2.fr).Ax ra).same k4.fr;rw [e4,ra.same b (ne b hb),afL b hb]
        ·rw [rb.shape b];have hb3:b < (w2.putObj L (.loop { CG with state:=.busy,pending:=none })).heap.size:=by rw [ra.size];exact Nat.lt_of_lt_of_le hb k2.fr.size
         rw [k4.fr.shape b hb3,ra.shape b,k2.fr.shape b hb]
       ·exact ((((j5.fr.trans (k2.fr.OR OR)).Ax ra hL1).trans (k4.fr.OR OR)).Ax rb hL1)
      cases e with
      | normal=>
       simp only [Ks.at] at hk4;obtain ⟨w5,e1,e2,e3,e4,e5,e6,e7,e8⟩:=fin none _ rfl;refine ⟨_,w5,e1,true,rfl,e3,?_⟩;obtain ⟨d',s3,g1,g2,F6,O6,μ6,ft6,g3⟩:=BB hk4 e7 e8.le e8.nt e8.sr;refine ⟨F6,O6,μ6,ft6,.ready,none,s3,by simpa using e2,e4.step g3.fr,fun b hb=>g3.fr.As b (e5 b hb),fun b hb=>⟨(e6 b hb).1,(e6 b hb).2.step g3.fr⟩,⟨g3.ok,g3.le,g3.nt,g3.sr,e8.fr.trans g3.fr⟩,.inl ⟨rfl,rfl,d',g1,?_⟩⟩;rw [← hsN];exact g2
      | ret=>
       simp only [Ks.at] at hk4;obtain ⟨w5,e1,e2,e3,e4,e5,e6,e7,e8⟩:=fin (some .ret) _ rfl;exact ⟨_,w5,e1,false,rfl,e3,F4,O4,μ4,ft4,.done,some .ret,H8.back s2,by simpa using e2,e4,e5,e6,e8,.inr ⟨rfl,rfl,.ret,.ret,rfl,.inl ⟨rfl,rfl⟩,fun _ _ _=>hk4⟩⟩
      | exit i=>
       simp only [Ks.at] at hk4;obtain ⟨w5,e1,e2,e3,e4,e5,e6,e7,e8⟩:=fin (some (.exit i)) _ rfl;exact ⟨_,w5,e1,false,rfl,e3,F4,O4,μ4,ft4,.done,some (.exit i),H8.back s2,by simpa using e2,e4,e5,e6,e8,.inr ⟨rfl,rfl,.exit i,.exit i,rfl,.inr ⟨i,rfl,rfl⟩,fun _ _ _=>hk4⟩⟩
      | goto i=>exact hk4.elim
      | panic l=>obtain ⟨_,_,_,h,_⟩:=hk4;cases h
      | outgrown=>exact hk4.elim
     | ret=>cases hk
     | exit i=>cases hk
     | goto i=>exact hk.elim
     | panic l=>obtain ⟨_,_,_,h,_⟩:=hk;cases h
     | outgrown=>exact hk.elim
    have lG:=afG xv xs hL cas (by rw [mj hcx];exact ca1) W1 F1 μ us ?_ hh1.sr.hr.wf hh1.sr.hr.pos L J afI VX hJ0
    ·refine ⟨L,[yS w.heap.size],W1,⟨.fn (.func c.f) ⟨us⟩,#[]++#[.func (.yield L) #[] #[]]⟩,W1,c.f,⟨.func (.yield L) ⟨[]⟩ ⟨[]⟩::us⟩,W1,run_enterLoop_outer _ _ _ _ _,?_,fun _ _=>trivial,?_,(fun h=>by cases h),CallsIn.mono lG ?_⟩
     ·simp [resolve,EK,Deferred.ofValue];rfl
     ·have:=Ug ⟨.func (.yield L) ⟨[]⟩ ⟨[]⟩::us⟩ W1;simp only [invoke];simpa using this
     ·rintro e w' ⟨v,F',O',rfl,Fo,Oo,Y3,fto,st,p,H8,j1,j2,j3,j4,j5,j6⟩
      have hL1:w.heap.size≤L:=by show w.heap.size≤w.heap.size+1;omega
      rcases j6 with ⟨rfl,rfl,d,d1,d2⟩ | ⟨_,rfl,cj,e,rfl,hce,hat⟩
      ·refine ⟨none,_,run_endLoop j1 (by simp),?_⟩;obtain ⟨ra,_⟩:=Ft (r':={ CG with state:=.exhausted,pending:=none }) j1;have hd:yG f.eR (EY f s.nt ks.n) d=some z:=d1;rw [BC d2] at hd;exact ⟨H8,Fo,Oo,Y3,fto,j5.Ax ra hL1 j2.2.1 j2.2.2,hd⟩
      ·refine ⟨some cj,_,run_endLoop j1 (by simp),?_⟩;obtain ⟨ra,_⟩:=Ft (r':={ CG with state:=.exhausted,pending:=some cj }) j1;have hhe:=j5.Ax ra hL1 j2.2.1 j2.2.2;rcases hce with ⟨rfl,rfl⟩ | ⟨i,rfl,rfl⟩
       ·exact wpIn_ret ⟨H8,Fo,Oo,Y3,fto,hhe,hat _ _ _⟩
       ·exact wpIn_exit ⟨H8,Fo,Oo,Y3,fto,hhe,hat _ _ _⟩
    ·have y_:Fr w F O μ (below m0) W1 F1 O1 KB:=hh.fr.trans gw.fr;have OS:=ca2 RA;exact ⟨OS.1,fun i hi=>(OS.2 i hi).mono (fun b hb=>y_.frozen hs.hr b hb) y_.As (fun _ h=>h.elim) (fun _ h=>h) fun _ h=>h.elim⟩
   ·cases h0
  ·cases h
 ·cases h
theorem aeB {E:Env} {bN:Nat→List CT} {A:Ann} {z:R} {K0:Nat} (hE:∀ k,k≤K0→xm E (bN k)) (hI:∀ k,k≤K0→∀ c,c∈A.it k→JX E.P c) (bE:E.P.follows .mixedOrders=true):∀ (c:Code),aa4 E.P z (fun m k s ks=>den E bN A m c k s ks) c K0:=by
 intro c
 induction c with
 | skip=>
  intro m0 n0 ro k s ks h Qs xo ho hm w F O μ ft a fT hn hs;exact wpIn_skip ⟨s,F,O,μ,ft,.refl ho hm hn hs,h⟩
 | label l=>
  intro m0 n0 ro k s ks h Qs xo ho hm w F O μ ft a fT hn hs;exact wpIn_label ⟨s,F,O,μ,ft,.refl ho hm hn hs,h⟩
 | exit id=>
  intro m0 n0 ro k s ks h Qs xo ho hm w F O μ ft a fT hn hs;exact wpIn_exit ⟨s,F,O,μ,ft,.refl ho hm hn hs,h⟩
 | ret=>
  intro m0 n0 ro k s ks h Qs xo ho hm w F O μ ft a fT hn hs;exact wpIn_ret ⟨s,F,O,μ,ft,.refl ho hm hn hs,h⟩
 | goto l=>intro m0 n0 ro k s ks h;simp [den] at h
 | refuse l=>intro m0 n0 ro k s ks h;simp [den] at h
 | rangeFunc g ps x y ih1 ih2=>
  intro m0 n0 ro k s ks h Qs xo ho hm w F O μ ft a fT hn hs;obtain ⟨ps⟩:=ps;have hro:ro=none:=Qs.resolve_right (by simp [wy]);subst hro;simp only [den] at h;exact aa5 hI ih1 ih2 h xo ho hm fT hn hs
 | region id ops draw=>
  intro m0 n0 ro k s ks h Qs xo ho hm w F O μ ft a fT hn hs;obtain ⟨ops⟩:=ops;cases draw with
  | false=>
   simp only [den] at h;refine wpIn_region_list (T8 (hE k xo) h ho hm hn hs (fun s' a' w' F' O' bD bY h1 h2=>⟨s',F',O',bD,bY,h2,h1⟩) fun v u s' a' w' F' O' bD bY h1 hw h2 h3=>⟨s',F',O',bD,bY,h3,u,v,rfl,h1,hw,h2⟩)
  | true=>
   simp only [den] at h;split at h
   ·unfold adg at h;split at h
    ·split at h
     ·exact VY (hE k xo) bE h ho hm hn hs fun s' a' w' F' O' bD bY h1 h2=>⟨s',F',O',bD,bY,h2,h1⟩
     ·cases h
    ·exact YC (hE k xo) bE h ho hm hn hs fun s' a' w' F' O' bD bY h1 h2=>⟨s',F',O',bD,bY,h2,h1⟩
   ·cases h
 | seq x y ihx ihy=>
  intro m0 n0 ro k s ks h Qs xo ho hm w F O μ ft a fT hn hs;have acI:wy (.seq x y)=true→wy x=true:=fun h=>by simp only [wy,Bool.and_eq_true] at h;exact h.1
  have acJ:wy (.seq x y)=true→wy y=true:=fun h=>by simp only [wy,Bool.and_eq_true] at h;exact h.2
  simp only [den] at h;refine wpIn_seq ?_;split at h
  ·rename_i f hf;simp only [share] at h;refine Code.wpIn_mono ?_ (ihx m0 n0 ro k s _ h (Qs.imp id acI) xo ho hm fT hn hs)
   rintro e a' w' ⟨s',F',O',bD,bY,hh,hk⟩
   cases e with
   | normal=>
    obtain ⟨x,s2,h1,h2,F2,O2,Gk,Lt,h3⟩:=BB (w:=w') (F:=F') (O:=O') (μ:=bD) (ft:=bY) (a:=a') hk hh.ok hh.le hh.nt hh.sr;have h2':instF s.nt f (fo f.eR x)=some s2:=by rw [hn.1,← hh.nt.1];exact h2
    rw [BC h2'] at h1;exact Code.wpIn_mono (GM.trans (hh.fr.trans h3.fr)) (ihy m0 n0 ro k s2 ks h1 (Qs.imp id acJ) xo h3.ok h3.le (Nat.le_trans fT hh.fr.size) h3.nt h3.sr)
   | _=>exact ⟨s',F',O',bD,bY,hh,hk⟩
  ·refine Code.wpIn_mono ?_ (ihx m0 n0 ro k s _ h (Qs.imp id acI) xo ho hm fT hn hs)
   rintro e a' w' ⟨s',F',O',bD,bY,hh,hk⟩
   cases e with
   | normal=>exact Code.wpIn_mono (GM.trans hh.fr) (ihy m0 n0 ro k s' ks hk (Qs.imp id acJ) xo hh.ok hh.le (Nat.le_trans fT hh.fr.size) hh.nt hh.sr)
   | _=>exact ⟨s',F',O',bD,bY,hh,hk⟩
 | cond c x y ihx ihy=>
  intro m0 n0 ro k s ks h Qs xo ho hm w F O μ ft a fT hn hs;have acI:wy (.cond c x y)=true→wy x=true:=fun h=>by simp only [wy,Bool.and_eq_true] at h;exact h.1
  have acJ:wy (.cond c x y)=true→wy y=true:=fun h=>by simp only [wy,Bool.and_eq_true] at h;exact h.2
  simp only [den] at h;split at h
  ·rename_i b hb;have hv:=bX hb hs;simp only [TA.av,cT] at hv;cases b with
   | true=>exact wpIn_cond_true hv.fe (ihx m0 n0 ro k s ks h (Qs.imp id acI) xo ho hm fT hn hs)
   | false=>exact wpIn_cond_false hv.fe (ihy m0 n0 ro k s ks h (Qs.imp id acJ) xo ho hm fT hn hs)
  ·cases h
 | block id c ih=>
  intro m0 n0 ro k s ks h Qs xo ho hm w F O μ ft a fT hn hs;simp only [den] at h;refine wpIn_block (Code.wpIn_mono ?_ (ih m0 n0 ro k s _ h Qs xo ho hm fT hn hs))
  rintro e a' w' ⟨s',F',O',bD,bY,hh,hk⟩
  cases e with
  | exit b9=>
   simp only [Ks.at] at hk;simp only [Exit.inBlock];split
   ·rename_i e;subst e;rw [Nat.beq_refl] at hk;exact ⟨s',F',O',bD,bY,hh,hk⟩
   ·rename_i e;rw [cd e] at hk;exact ⟨s',F',O',bD,bY,hh,hk⟩
  | _=>exact ⟨s',F',O',bD,bY,hh,hk⟩
 | scope c ih=>
  intro m0 n0 ro k s ks h Qs xo ho hm w F O μ ft a fT hn hs;simp only [den] at h;refine Gn (Code.wpIn_mono ?_ (ih m0 n0 ro k s _ h Qs xo ho hm fT hn hs))
  rintro e a' w' ⟨s',F',O',bD,bY,hh,hk⟩
  cases e with
  | goto l=>exact hk.elim
  | _=>exact ⟨s',F',O',bD,bY,hh,hk⟩
 | loop c ih=>
  intro m0 n0 ro k s ks h Qs xo ho hm w F O μ ft a fT hn hs;simp only [den] at h;split at h
  ·rename_i f hf;have key:∀ (k:Nat),k≤K0→∀ (x:zf f.eR) (s':bP),yG f.eR (iter k fun k' rec=>EY f s.nt fun s'=>den E bN A m0 c k' s' { ks with n:=Da f m0 rec }) x=some z→instF s.nt f (fo f.eR x)=some s'→s'.ok→m0≤s'.N→
     ∀ {w:World} {F O:Nat→Prop} {μ:Nat→Nat} {ft:Nat→Nat→Prop} {a:Act},n0.2≤w.heap.size→Pz n0 s' a→SR w F O μ (below s'.N) s'.st ft a→z_ ro E.P c (GM ks z w F O μ m0 n0) a w:=by
    intro k
    induction k with
    | zero=>
     intro _ x s' h1;simp only [iter] at h1;rw [xH] at h1;cases h1
    | succ k ihk=>
     intro xo x s' h1 h2 JG Yc w F O μ ft a afM hn' IA;simp only [iter] at h1;rw [BC h2] at h1;refine z_.round (Code.wpIn_mono ?_ (ih m0 n0 ro k s' _ h1 Qs (by omega) JG Yc afM hn' IA))
     rintro e a' w' ⟨s2,F',O',bD,bY,hh,hk⟩
     cases e with
     | normal=>
      obtain ⟨x',s3,k1,k2,F2,O2,Gk,Lt,k3⟩:=BB (w:=w') (F:=F') (O:=O') (μ:=bD) (ft:=bY) (a:=a') hk hh.ok hh.le hh.nt hh.sr;have k2':instF s.nt f (fo f.eR x')=some s3:=by rw [hn.1,← hh.nt.1];exact k2
      exact z_.mono (GM.trans (hh.fr.trans k3.fr)) (ihk (by omega) x' s3 k1 k2' k3.ok k3.le (Nat.le_trans afM hh.fr.size) k3.nt k3.sr)
     | _=>exact ⟨s2,F',O',bD,bY,hh,hk⟩
   obtain ⟨x,s',h1,h2,F',O',bD,bY,h3⟩:=BB h ho hm hn hs;exact (z_.mono (GM.trans h3.fr) (key k xo x s' h1 h2 h3.ok h3.le fT h3.nt h3.sr)).wp
  ·cases h
end Go.Proofs.YtjkbbdldmdajkaaGreatDoor.c_
