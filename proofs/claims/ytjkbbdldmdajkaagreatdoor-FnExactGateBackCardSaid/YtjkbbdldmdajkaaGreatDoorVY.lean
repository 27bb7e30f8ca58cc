/- What code computes, as a function of states. No condition. -/
import Derived.Test.YtjkbbdldmdajkaaGreatDoorWI
import Derived.Scope
set_option linter.unusedSimpArgs false
set_option linter.unusedVariables false
namespace Go.Proofs.YtjkbbdldmdajkaaGreatDoor.c_
open Go Go.RowKit
variable {w w' xk:World} {F F' Bs O O' v8:Nat→Prop} {μ bC lG:Nat→Nat} {K K' EF:Nat→Prop} {ft bZ:Nat→Nat→Prop} {P:Program} {R:Type}
def share {α β:Type} (x:α) (f:α→β):β:=f x
def iter {ts:List Ty} {R:Type} (k:Nat) (body:Nat→L8 ts (Option R)→L8 ts (Option R)):L8 ts (Option R):=match k with
 | 0=>Xo ts fun _=>none
 | k+1=>body k (iter k body)
structure Ann where
 loop:List (Nat×jS)
 join:List (Nat×jS)
 draw:List (Nat×List Nat×List (Nat×List Nat))
 it:Nat→List IT
def afH:List (Nat×jS)→Nat→Option jS
 | [],_=>none
 | (i,f)::r,k=>match Nat.beq k i with
  | true=>some f
  | false=>afH r k
def afI:List (Nat×List Nat×List (Nat×List Nat))→Nat→Option (List Nat×List (Nat×List Nat))
 | [],_=>none
 | (i,f)::r,k=>match Nat.beq k i with
  | true=>some f
  | false=>afI r k
def CK:Code→Option Nat
 | .region id _ _=>some id
 | .seq a b=>match CK a with
  | some i=>some i
  | none=>CK b
 | .cond _ a b=>match CK a with
  | some i=>some i
  | none=>CK b
 | .block _ c=>CK c
 | .loop c=>CK c
 | .scope c=>CK c
 | .rangeFunc _ _ c _=>CK c
 | _=>none
def acG (l:List (Nat×jS)) (c:Code):Option jS:=match CK c with
 | some i=>afH l i
 | none=>none
structure Ks (R:Type) where
 n:bP→Option R
 x:Nat→bP→Option R
 r:bP→Option R
 p:TA→bP→Option R
inductive Place where
 | tm (t:Nat) (ty:Ty) (v:RV)
 | cell (id off:Nat) (ty:Ty) (v:RV)
 | dI (id off:Nat)
 | aeA (t:Nat)
def De (s:bP):Place→bP
 | .tm t ty v=>match look s.tm t,v.b with
  | .fB,true=>⟨s.nt,s.N+1,(t,.ow s.N)::s.tm,cD s.H [(s.N,some (.row ty v []))]⟩
  | _,_=>s
 | .cell id off ty v=>match aT s.H id,v.b with
  | some (.box l),true=>match l.getD off .top with
   | .fB=>⟨s.nt,s.N+1,s.tm,cD s.H [(id,some (.box (l.set off (.ow s.N)))),(s.N,some (.row ty v []))]⟩
   | _=>s
  | _,_=>s
 | .dI id off=>match aT s.H id with
  | some (.box l)=>match l.getD off .top with
   | .ow j=>match aT s.H j with
    | some (.row ty v xs)=>⟨s.nt,s.N+1,s.tm,cD s.H [(id,some (.box (l.set off (.ow s.N)))),(s.N,some (.row ty v xs)),(j,none)]⟩
    | _=>s
   | _=>s
  | _=>s
 | .aeA t=>match look s.tm t with
  | .ow j=>match aT s.H j with
   | some (.row ty v xs)=>⟨s.nt,s.N+1,(t,.ow s.N)::s.tm,cD s.H [(s.N,some (.row ty v xs)),(j,none)]⟩
   | _=>s
  | _=>s
def BD (s:bP):List Place→bP
 | []=>s
 | p::r=>BD (De s p) r
theorem aa3 {s:bP} {a:Act} (ty:Ty) (v:RV) (hs:SR w F O μ (below s.N) s.st ft a):
  HR w F O (Ic μ s.N 0) (below (s.N+1)) (s.st.H.dh [(s.N,some (.row true (fy ty) 0 (bV v ty [])))]) ft∧Fr w F O μ (below s.N) w F O (Ic μ s.N 0):=by
 have h:=xL (N:=s.N) (bA:=fy ty) (e:=bV v ty []) hs.hr (fun h=>absurd h (by simp [below]));have e:plus (below s.N) [s.N]=below (s.N+1):=Cw s.N 1;rw [e] at h;exact h
theorem HR.ag7 {H H':Hp} (hr:HR w F O μ K H ft) (h:∀ id b',H' id=some b'→∃ b,H id=some b∧(b'.fc=true→b.fc=true)∧∀ o,ik w F μ K (ft id) (μ id) o b→ik w F μ K (ft id) (μ id) o b'):HR w F O μ K H' ft:=by
 have lv:∀ id,H'.live id→H.live id:=fun id ⟨b',cl,hl⟩=>by
  obtain ⟨b,h1,h2,_⟩:=h id b' cl;exact ⟨b,h1,h2 hl⟩
 refine { lt:=hr.lt,known:=fun id b' cl=>?_,dC:=fun id b' cl hl=>?_,self:=fun id hl=>hr.self id (lv id hl),own:=fun id hl=>hr.own id (lv id hl),dj:=fun id b9 hl Ct=>hr.dj id b9 (lv id hl) (lv b9 Ct),zc:=hr.zc,wf:=hr.wf,rT:=hr.rT,pos:=hr.pos }
 ·obtain ⟨b,h1,_⟩:=h id b' cl;exact hr.known id b h1
 ·obtain ⟨b,h1,h2,h3⟩:=h id b' cl;obtain ⟨o,ho,hB⟩:=hr.dC id b h1 (h2 hl);exact ⟨o,ho,h3 o hB⟩
theorem W4 {v:Bool} {j N n bA:Nat} {u:Value} (hN:K N) (P9:(v=true∧n=0)∨μ N=μ j) (h:VR w F μ K (du v j n bA) u):VR w F μ K (du v N n bA) u:=by
 cases v with
 | false=>
  have e:μ N=μ j:=by rcases P9 with ⟨h,_⟩ | h;cases h;exact h
  simp only [du] at h ⊢;cases h with
  | ms _ _ _ _ cap sz t bY hc hs fV=>rw [← e];exact .ms _ _ _ _ cap sz t hN hc (by rw [e];exact hs) fV
 | true=>
  simp only [du] at h ⊢;cases h with
  | vs _ _ _ cap sz t hn bY hc hs fV=>
   have e:μ N=μ j:=by rcases P9 with ⟨_,h⟩ | h;exact absurd h hn;exact h
   rw [← e];exact .vs _ _ _ cap sz t hn hN hc (by rw [e];exact hs) fV
  | s9=>exact .s9 _ _ _
theorem aeB {s:bP} {a:Act} {j:Nat} {ty:Ty} {v:RV} {xs:List ty.dn} (hs:SR w F O μ (below s.N) s.st ft a) (hj:aT s.H j=some (.row ty v xs)):
  ∃ bC bZ,HR w F O bC (below (s.N+1)) (s.st.H.dh [(s.N,some (.row v.b (fy ty) xs.length (bV v ty xs))),(j,none)]) bZ∧Fr w F O μ (below s.N) w F O bC∧
   ∀ u,VR w F bC (below (s.N+1)) (du v.b j xs.length (fy ty)) u→VR w F bC (below (s.N+1)) (du v.b s.N xs.length (fy ty)) u:=by
 have hH:s.st.H j=some (.row v.b (fy ty) xs.length (bV v ty xs)):=dF hj;have hjN:j < s.N:=hs.hr.known j _ hH;have eK:plus (below s.N) [s.N]=below (s.N+1):=Cw s.N 1;have hKN:¬ below s.N s.N:=by simp [below]
 cases hl:(jV.row v.b (fy ty) xs.length (bV v ty xs)).fc with
 | true=>
  obtain ⟨o,ho,hB⟩:=hs.hr.dC j _ hH hl;have gQ:s.st.H.live j:=⟨_,hH,hl⟩;have NK:=hs.hr.self j gQ;have hO:=hs.hr.own j gQ _ NK;have hp:tp w w (μ j) o:=⟨rfl,rfl,rfl,Nat.le_refl _,hs.hr.lt j hjN,ho,fun _ _ _=>rfl,fun _ _=>rfl⟩;obtain ⟨k1,k2⟩:=EG (M:=s.N) (L:=[j]) (S:=ft j) hs.hr hp (.inl hO) (fun h=>absurd h hKN) (fun x hx=>.inr ⟨j,.inr (by simp),gQ,hx⟩) NK
   (fun id h1 h2 h3 h4=>h3 (by have:=hs.hr.dj id j h1 gQ _ h4 NK;simp [this])) hB
  have eO:(fun x=>O x∨x=μ j)=O:=by
   funext x;exact propext ⟨fun h=>by rcases h with h | h;exact h;rw [h];exact hO,.inl⟩
  rw [eO,eK] at k1;rw [eO] at k2;refine ⟨_,_,k1,k2,fun u hu=>W4 (by simp [below]) (.inr ?_) hu⟩;rw [gC,I2 (by omega)]
 | false=>
  have hv:v.b=true∧xs.length=0:=by
   cases hvb:v.b with
   | false=>rw [hvb] at hl;simp [jV.fc] at hl
   | true=>rw [hvb] at hl;simpa [jV.fc] using hl
  obtain ⟨k1,k2⟩:=xL (N:=s.N) (bA:=fy ty) (e:=bV v ty xs) hs.hr hKN;rw [eK] at k1;refine ⟨_,ft,k1.imp fun id b' cl=>?_,k2,fun u hu=>W4 (by simp [below]) (.inl hv) hu⟩;simp only [Hp.dh] at cl ⊢;by_cases e:id=s.N
  ·rw [if_pos e] at cl ⊢;rw [hv.1,hv.2] at cl;exact ⟨b',cl,eQ.refl _⟩
  ·rw [if_neg e] at cl ⊢;by_cases e2:id=j
   ·rw [if_pos e2] at cl;cases cl
   ·rw [if_neg e2] at cl;exact ⟨b',cl,eQ.refl _⟩
theorem Qv {s:bP} {a:Act} {j:Nat} {ty:Ty} {v:RV} {xs:List ty.dn} (ho:s.ok) (hs:SR w F O μ (below s.N) s.st ft a) (hj:aT s.H j=some (.row ty v xs)) {UA:List (Nat×TA)} {H':List (Nat×aY)}
  (jO:Sub s.H H' s.N) (hN:aT H' s.N=some (.row ty v xs)) (mR:∀ b,aT H' j=some b→b.Uy=false) (htm:∀ t,look UA t=look s.tm t∨(look s.tm t=.ow j∧look UA t=.ow s.N))
  (hH:∀ id,id≠s.N→id≠j→aT H' id=aT s.H id∨∃ l off,aT s.H id=some (.box l)∧l.getD off .top=.ow j∧aT H' id=some (.box (l.set off (.ow s.N)))):
  bP.ok ⟨s.nt,s.N+1,UA,H'⟩∧s.N≤s.N+1∧s.nt=s.nt∧Sub s.H H' s.N∧∃ bC bZ,SR w F O bC (below (s.N+1)) (bP.st ⟨s.nt,s.N+1,UA,H'⟩) bZ a∧Fr w F O μ (below s.N) w F O bC:=by
 obtain ⟨bC,bZ,h1,h2,h3⟩:=aeB hs hj;have hjN:j < s.N:=hs.hr.known j _ (dF hj);have ej:(TA.ow j).av s.H=du v.b j xs.length (fy ty):=by simp only [TA.av,hj,fH]
 have eN:(TA.ow s.N).av H'=du v.b s.N xs.length (fy ty):=by simp only [TA.av,hN,fH]
 have stp:∀ {x u},VR w F μ (below s.N) x u→VR w F bC (below (s.N+1)) x u:=fun hx=>hx.step hs.hr h2 fun id (h:id < s.N)=>(by show id < s.N+1;omega);refine ⟨⟨fun t=>?_,fun id l hl=>?_⟩,Nat.le_succ _,rfl,jO,bC,bZ,⟨h1.ag7 fun id b' hb=>?_,hs.nt,fun t=>?_,hs.df⟩,h2⟩
 ·show (look UA t).wf H' (s.N+1);rcases htm t with e | ⟨_,e⟩
  ·rw [e];exact (jR jO (Nat.le_succ _) _ (ho.tm t)).2
  ·rw [e];simp only [TA.wf];omega
 ·have hl:aT H' id=some l:=hl;by_cases e:id=s.N
  ·rw [e,hN] at hl;cases hl;simp only [aY.refs,im]
  ·by_cases e2:id=j
   ·subst e2;have:=mR _ hl;cases l with
    | bY=>simp only [aY.refs,im]
    | _=>cases this
   ·rcases hH id e e2 with h | ⟨l0,off,q3,q4,q5⟩
    ·rw [h] at hl;exact (hG jO (Nat.le_succ _) _ (ho.H id _ hl)).2
    ·rw [q5] at hl;cases hl;have hw:=(hG jO (Nat.le_succ s.N) _ (show im s.H s.N l0 from ho.H id _ q3)).2;refine db.2 fun x hx=>?_;rcases List.mem_or_eq_of_mem_set hx with h | h
     ·exact db.1 hw x h
     ·rw [h];simp only [TA.wf];omega
 ·obtain ⟨c,hc,hv,rfl⟩:=iA hb;by_cases e:id=s.N
  ·subst e;rw [hN] at hc;cases hc;exact ⟨_,by simp only [Hp.dh,if_true];rfl,fun h=>h,fun o h=>h⟩
  ·by_cases e2:id=j
   ·subst e2;have:=mR _ hc;rw [this] at hv;cases hv
   ·have eu:(s.st.H.dh [(s.N,some (.row v.b (fy ty) xs.length (bV v ty xs))),(j,none)]) id=s.st.H id:=by simp only [Hp.dh,if_neg e,if_neg e2]
    rw [eu];rcases hH id e e2 with h | ⟨l0,off,q3,q4,q5⟩
    ·rw [h] at hc;refine ⟨_,dF hc hv,?_⟩;rw [show (bP.H ⟨s.nt,s.N+1,UA,H'⟩)=H' from rfl,qN jO (ho.H id _ hc)];exact ⟨fun h=>h,fun o h=>h⟩
    ·rw [q5] at hc;cases hc;refine ⟨_,dF q3,fun _=>rfl,fun o ⟨cs,t,m1,m2,m3,m4⟩=>⟨cs,t,m1,m2,?_,fun k hk=>?_⟩⟩
     ·rw [bB] at m3 ⊢;simpa using m3
     ·rw [bB] at hk;have Qk:k < l0.length:=by simpa using hk
      have m5:=m4 k (by rw [bB];exact Qk);rw [dx _ _ _ Qk] at m5;rw [dx _ _ _ hk];show VR w F bC _ (((l0.set off (.ow s.N)).getD k .top).av H') _;by_cases e3:off=k
      ·subst e3;have e4:(l0.set off (.ow s.N)).getD off .top=.ow s.N:=by simp [List.getD,Qk]
       rw [q4,ej] at m5;rw [e4,eN];exact h3 _ m5
      ·have e4:(l0.set off (.ow s.N)).getD k .top=l0.getD k .top:=by simp [List.getD,List.getElem?_set_ne e3]
       rw [e4,(jR jO (Nat.le_refl _) _ (Cz (show im s.H s.N l0 from ho.H id _ q3) k)).1];exact m5
 ·show VR w F _ _ ((look UA t).av H') _;have hv:=hs.tm t;rcases htm t with e | ⟨e0,e⟩
  ·rw [e,(jR jO (Nat.le_refl _) _ (ho.tm t)).1];exact stp hv
  ·rw [e,eN];have I4:VR w F μ (below s.N) ((look s.tm t).av s.H) (a.tmps.getD t undef):=hv;rw [e0,ej] at I4;exact h3 _ (stp I4)
theorem aa4 {s:bP} {a:Act} (p:Place) (ho:s.ok) (hs:SR w F O μ (below s.N) s.st ft a):(De s p).ok∧s.N≤(De s p).N∧(De s p).nt=s.nt∧
  Sub s.H (De s p).H s.N∧∃ bC bZ,SR w F O bC (below (De s p).N) (De s p).st bZ a∧Fr w F O μ (below s.N) w F O bC:=by
 have same:s.ok∧s.N≤s.N∧s.nt=s.nt∧Sub s.H s.H s.N∧∃ bC bZ,SR w F O bC (below s.N) s.st bZ a∧Fr w F O μ (below s.N) w F O bC:=⟨ho,Nat.le_refl _,rfl,Sub.refl _ _,μ,ft,hs,Fr.refl _ _ _ _ _⟩;have key:∀ (ty:Ty) (v:RV) (UA:List (Nat×TA)) (H':List (Nat×aY)),v.b=true→Sub s.H H' s.N→aT H' s.N=some (.row ty v [])→(∀ t,look UA t=look s.tm t∨(look s.tm t=.fB∧look UA t=.ow s.N))→
   (∀ id,id≠s.N→aT H' id=aT s.H id∨∃ l off,aT s.H id=some (.box l)∧l.getD off .top=.fB∧aT H' id=some (.box (l.set off (.ow s.N))))→
   bP.ok ⟨s.nt,s.N+1,UA,H'⟩∧s.N≤s.N+1∧s.nt=s.nt∧Sub s.H H' s.N∧∃ bC bZ,SR w F O bC (below (s.N+1)) (bP.st ⟨s.nt,s.N+1,UA,H'⟩) bZ a∧Fr w F O μ (below s.N) w F O bC:=by
  intro ty v UA H' hvb jO hN htm hH;obtain ⟨h1,h2⟩:=aa3 (s:=s) (a:=a) ty v hs;have W5:∀ {w F bC K' v},VR w F bC K' .fB v→VR w F bC K' ((TA.ow s.N).av H') v:=fun {w F bC K' v} hv=>by
   rw [hv.qd];simp only [TA.av,hN,fH,List.length_nil,hvb,du];exact .s9 _ _ _
  have aeC:∀ {bC K' v},VR w F bC K' .fB v→VR w F bC K' ((TA.ow s.N).av H') v:=fun {bC K' v} hv=>W5 hv;have stp:∀ {x v},VR w F μ (below s.N) x v→VR w F (Ic μ s.N 0) (below (s.N+1)) x v:=fun hx=>hx.step hs.hr h2 fun id (h:id < s.N)=>(by show id < s.N+1;omega);refine ⟨⟨fun t=>?_,fun id l hl=>?_⟩,Nat.le_succ _,rfl,jO,_,ft,⟨h1.imp fun id b' hb=>?_,hs.nt,fun t=>?_,hs.df⟩,h2⟩
  ·show (look UA t).wf H' (s.N+1);rcases htm t with e | ⟨_,e⟩
   ·rw [e];exact (jR jO (Nat.le_succ _) _ (ho.tm t)).2
   ·rw [e];simp only [TA.wf];omega
  ·have hl:aT H' id=some l:=hl;by_cases e:id=s.N
   ·rw [e,hN] at hl;cases hl;simp only [aY.refs,im]
   ·rcases hH id e with h | ⟨l0,off,h3,h4,h5⟩
    ·rw [h] at hl;exact (hG jO (Nat.le_succ _) _ (ho.H id _ hl)).2
    ·rw [h5] at hl;cases hl;have hw:=(hG jO (Nat.le_succ s.N) _ (show im s.H s.N l0 from ho.H id _ h3)).2;refine db.2 fun x hx=>?_;rcases List.mem_or_eq_of_mem_set hx with h | h
     ·exact db.1 hw x h
     ·rw [h];simp only [TA.wf];omega
  ·obtain ⟨c,hc,hv,rfl⟩:=iA hb;by_cases e:id=s.N
   ·subst e;rw [hN] at hc;cases hc;refine ⟨_,by rw [Hp.Cs,if_pos rfl],?_⟩;simp only [aY.dC,hvb,List.length_nil];exact eQ.refl _
   ·rw [Hp.Cs,if_neg e];rcases hH id e with h | ⟨l0,off,h3,h4,h5⟩
    ·rw [h] at hc;refine ⟨_,dF hc hv,?_⟩;rw [show (bP.H ⟨s.nt,s.N+1,UA,H'⟩)=H' from rfl,qN jO (ho.H id _ hc)];exact eQ.refl _
    ·rw [h5] at hc;cases hc;refine ⟨_,dF h3,?_⟩;simp only [aY.dC];refine Tw (by rw [bB,bB];simp) fun k hk=>?_;rw [bB] at hk;have Qk:k < l0.length:=by simpa using hk
     rw [dx _ _ _ Qk,dx _ _ _ hk];intro w1 F1 KC K1 v1 JI;by_cases e2:off=k
     ·subst e2;have e3:(l0.set off (.ow s.N)).getD off .top=.ow s.N:=by simp [List.getD,Qk]
      rw [h4] at JI;simp only [TA.av] at JI;show VR w1 F1 KC K1 (((l0.set off (.ow s.N)).getD off .top).av H') v1;rw [e3];exact W5 JI
     ·have e3:(l0.set off (.ow s.N)).getD k .top=l0.getD k .top:=by simp [List.getD,List.getElem?_set_ne e2]
      show VR w1 F1 KC K1 (((l0.set off (.ow s.N)).getD k .top).av H') v1;rw [e3,(jR jO (Nat.le_refl _) _ (Cz (show im s.H s.N l0 from ho.H id _ h3) k)).1];exact JI
  ·show VR w F _ _ ((look UA t).av H') _;have hv:=hs.tm t;rcases htm t with e | ⟨e0,e⟩
   ·rw [e,(jR jO (Nat.le_refl _) _ (ho.tm t)).1];exact stp hv
   ·rw [e];have I4:VR w F μ (below s.N) ((look s.tm t).av s.H) (a.tmps.getD t undef):=hv;rw [e0] at I4;simp only [TA.av] at I4;exact aeC (stp I4)
 cases p with
 | tm t ty v=>
  simp only [De];split
  ·rename_i h0 hvb;refine key ty v _ _ hvb nL (by rw [qe,if_pos rfl]) (fun u=>?_) fun id e=>.inl (by rw [qe,if_neg e]);simp only [look];cases e:Nat.beq u t with
   | true=>rw [Nat.eq_of_beq_eq_true e];exact .inr ⟨h0,rfl⟩
   | false=>exact .inl rfl
  ·exact same
 | cell rU off ty v=>
  simp only [De];split
  ·rename_i l hl hvb;split
   ·rename_i h0;have qL:rU≠s.N:=fun e=>by
     have:=hs.hr.known rU _ (dF hl);simp only [below] at this;omega
    refine key ty v _ _ hvb (fun id bY=>?_) ?_ (fun u=>.inl rfl) fun id e=>?_
    ·simp only [cD,aT];cases e:Nat.beq id rU with
     | true=>rw [Nat.eq_of_beq_eq_true e,hl];rfl
     | false=>simp only [cd (show ¬ id=s.N by omega)]
    ·simp only [cD,aT,cd (show ¬ s.N=rU from fun h=>qL h.symm),Nat.beq_refl]
    ·simp only [cD,aT];cases e2:Nat.beq id rU with
     | true=>rw [Nat.eq_of_beq_eq_true e2];exact .inr ⟨l,off,hl,h0,rfl⟩
     | false=>exact .inl (by simp only [cd e])
   ·exact same
  ·exact same
 | dI rU off=>
  simp only [De];split
  ·rename_i l hl;split
   ·rename_i j h0;split
    ·rename_i ty v xs hj;have qL:rU≠s.N:=fun e=>by
      have:=hs.hr.known rU _ (dF hl);simp only [below] at this;omega
     have hjN:j < s.N:=hs.hr.known j _ (dF hj);have JK:rU≠j:=fun e=>by subst e;rw [hl] at hj;cases hj
     refine Qv ho hs hj (fun id bY=>?_) ?_ (fun b hb=>?_) (fun u=>.inl rfl) fun id e e2=>?_
     ·simp only [cD,aT];cases e:Nat.beq id rU with
      | true=>rw [Nat.eq_of_beq_eq_true e,hl];rfl
      | false=>
       simp only [cd (show ¬ id=s.N by omega)];cases e3:Nat.beq id j with
       | true=>simp only [fH];rw [Nat.eq_of_beq_eq_true e3]
       | false=>rfl
     ·simp only [cD,aT,cd (show ¬ s.N=rU from fun h=>qL h.symm),Nat.beq_refl]
     ·simp only [cD,aT,cd (show ¬ j=rU from fun h=>JK h.symm),cd (show ¬ j=s.N by omega),Nat.beq_refl,Option.some.injEq] at hb;rw [← hb];rfl
     ·simp only [cD,aT];cases e3:Nat.beq id rU with
      | true=>rw [Nat.eq_of_beq_eq_true e3];exact .inr ⟨l,off,hl,h0,rfl⟩
      | false=>exact .inl (by simp only [cd e,cd e2])
    ·exact same
   ·exact same
  ·exact same
 | aeA t=>
  simp only [De];split
  ·rename_i j h0;split
   ·rename_i ty v xs hj;have hjN:j < s.N:=hs.hr.known j _ (dF hj);refine Qv ho hs hj (fun id bY=>?_) ?_ (fun b hb=>?_) (fun u=>?_) fun id e e2=>?_
    ·simp only [cD,aT,cd (show ¬ id=s.N by omega)];cases e3:Nat.beq id j with
     | true=>simp only [fH];rw [Nat.eq_of_beq_eq_true e3]
     | false=>rfl
    ·simp only [cD,aT,Nat.beq_refl]
    ·simp only [cD,aT,cd (show ¬ j=s.N by omega),Nat.beq_refl,Option.some.injEq] at hb;rw [← hb];rfl
    ·simp only [look];cases e:Nat.beq u t with
     | true=>rw [Nat.eq_of_beq_eq_true e];exact .inr ⟨h0,rfl⟩
     | false=>exact .inl rfl
    ·exact .inl (by simp only [cD,aT,cd e,cd e2])
   ·exact same
  ·exact same
theorem JA {a:Act}:∀ (L:List Place) {s:bP} {μ:Nat→Nat} {ft:Nat→Nat→Prop},s.ok→SR w F O μ (below s.N) s.st ft a→(BD s L).ok∧s.N≤(BD s L).N∧(BD s L).nt=s.nt∧
  Sub s.H (BD s L).H s.N∧∃ bC bZ,SR w F O bC (below (BD s L).N) (BD s L).st bZ a∧Fr w F O μ (below s.N) w F O bC
 | [],s,μ,ft,ho,hs=>⟨ho,Nat.le_refl _,rfl,Sub.refl _ _,μ,ft,hs,Fr.refl _ _ _ _ _⟩
 | p::r,s,μ,ft,ho,hs=>by
  obtain ⟨h1,h2,h3,h6,KC,Wz,h4,h5⟩:=aa4 p ho hs;obtain ⟨k1,k2,k3,k6,Gq,Lu,k4,k5⟩:=JA r h1 h4;exact ⟨k1,Nat.le_trans h2 k2,k3.trans h3,(fun id bY=>(k6 id (Nat.lt_of_lt_of_le bY h2)).trans (h6 id bY)),Gq,Lu,k4,h5.trans (k5.OT fun id (bY:id < s.N)=>(show id < (De s p).N by omega))⟩
def y_ (m0:Nat) (dc:List Bp) (id:Nat):Nat→List vm→List TA→List Place
 | off,.ow j::ps,.fB::as=>match dc[j]? with
  | some (.row ty v)=>.cell id off ty v::y_ m0 dc id (off+1) ps as
  | _=>y_ m0 dc id (off+1) ps as
 | off,.ow j::ps,.ow i::as=>match Nat.ble m0 j&&Nat.blt i m0 with
  | true=>.dI id off::y_ m0 dc id (off+1) ps as
  | false=>y_ m0 dc id (off+1) ps as
 | off,.d _::ps,.ow i::as=>match Nat.blt i m0 with
  | true=>.dI id off::y_ m0 dc id (off+1) ps as
  | false=>y_ m0 dc id (off+1) ps as
 | off,_::ps,_::as=>y_ m0 dc id (off+1) ps as
 | _,_,_=>[]
def adi (m0:Nat) (dc:List Bp) (H:List (Nat×aY)) (j id:Nat):List Place:=match dc[j]?,aT H id with
 | some (.box ps),some (.box l)=>y_ m0 dc id 0 ps l
 | _,_=>[]
def PE (m0:Nat) (dc:List Bp) (s:bP):List (Nat×vm)→List Place
 | []=>[]
 | (t,.ow j)::r=>match look s.tm t with
  | .fB=>match dc[j]? with
   | some (.row ty v)=>.tm t ty v::PE m0 dc s r
   | _=>PE m0 dc s r
  | .ow i=>match Nat.ble m0 j&&Nat.blt i m0 with
   | true=>.aeA t::PE m0 dc s r
   | false=>PE m0 dc s r
  | _=>PE m0 dc s r
 | (t,.bp j _)::r=>match look s.tm t with
  | .bp id _=>adi m0 dc s.H j id++PE m0 dc s r
  | _=>PE m0 dc s r
 | _::r=>PE m0 dc s r
def Oy (m0:Nat) (dc:List Bp) (s:bP):Nat→List Place
 | 0=>[]
 | m+1=>adi m0 dc s.H m m++Oy m0 dc s m
def aa5 (f:jS) (m0:Nat) (J:L8 f.eR (Option R)) (s:bP):Option R:=match aen (BD s (Oy m0 f.dc s m0++PE m0 f.dc s f.Y4)) m0 f with
 | some ds=>match o8 f.eR ds with
  | some x=>yJ f.eR J x
  | none=>none
 | none=>none
def Df (f:jS) (m0:Nat) (J:L8 f.eR (Option R)) (s:bP):Option R:=aa5 f m0 J (th s (Aa s.H))
def E3 (f:jS) (nt:Nat) (X:bP→Option R):L8 f.eR (Option R):=Xo f.eR fun x=>match instF nt f (fq f.eR x) with
 | some s=>X s
 | none=>none
def VY (ps:List Nat) (nt:Nat) (f:jS) (m0:Nat) (D1 D2:Nat→bP→Ks R→Option R) (ks:Ks R) (ds:List cN) (J:L8 f.eR (Option R)):L8 f.eR (Option R):=
 E3 f nt fun s'=>D1 s'.N (s'.args ps ds) ⟨fun s1=>D2 s'.N s1 ⟨fun s2=>Df f m0 J (s'.back s2),fun i s2=>ks.x i (s'.back s2),fun s2=>ks.r (s'.back s2),fun _ _=>none⟩,fun _ _=>none,fun _=>none,fun _ _=>none⟩
def VZ (E:Env) (A:Ann) (m0:Nat) (ok:Bool) (ps:List Nat) (D1 D2:Nat→bP→Ks R→Option R) (fr:Option jS) (k:Nat) (s:bP) (ks:Ks R):TA→Option R
 | .fn (.func fi) [] AD=>match fr,ok&&ps.all (fun t=>t.blt s.nt) with
  | some f,true=>Sa s.H fi AD (A.it k) fun c xs=>match Nat.beq ps.length c.eR.length with
   | true=>Df f m0 (Ii (fun y=>VY ps s.nt f m0 D1 D2 ks (fq c.eR y)) (E3 f s.nt ks.n) xs) s
   | false=>none
  | _,_=>none
 | _=>none
def adj (E:Env) (bN:List CT) (ops:List Oper) (B:Array Nat) (fj:List (Nat×List Nat)) (s:bP) (κ:bP→Option R):Option R:=match Oz ops with
 | some _=>match fj with
  | (_,[id])::_=>Sb E bN ops B id s κ
  | _=>none
 | none=>VV E bN ops B fj s κ
def den (E:Env) (bN:Nat→List CT) (A:Ann):Nat→Code→Nat→bP→Ks R→Option R
 | m0,.skip,_,s,ks=>ks.n s
 | m0,.region _ ⟨ops⟩ false,k,s,ks=>Ju E (bN k) ⟨ops⟩ ops s ks.n ks.p
 | m0,.region id ⟨ops⟩ true,k,s,ks=>match afI A.draw id with
  | some (B,fj)=>adj E (bN k) ops ⟨B⟩ fj s ks.n
  | none=>none
 | m0,.seq x y,k,s,ks=>match acG A.join y with
  | some f=>share (E3 f s.nt fun s'=>den E bN A m0 y k s' ks) fun J=>den E bN A m0 x k s { ks with n:=Df f m0 J }
  | none=>den E bN A m0 x k s { ks with n:=fun s'=>den E bN A m0 y k s' ks }
 | m0,.cond c x y,k,s,ks=>match s.val c with
  | .d ⟨.bool,b⟩=>cond b (den E bN A m0 x k s ks) (den E bN A m0 y k s ks)
  | _=>none
 | m0,.block id c,k,s,ks=>den E bN A m0 c k s { ks with x:=fun i s'=>match Nat.beq i id with
  | true=>ks.n s'
  | false=>ks.x i s' }
 | m0,.loop c,k,s,ks=>match acG A.loop c with
  | some f=>Df f m0 (iter k fun k' rec=>E3 f s.nt fun s'=>den E bN A m0 c k' s' { ks with n:=Df f m0 rec }) s
  | none=>none
 | m0,.exit id,_,s,ks=>ks.x id s
 | m0,.ret,_,s,ks=>ks.r s
 | m0,.scope c,k,s,ks=>den E bN A m0 c k s ks
 | m0,.label _,_,s,ks=>ks.n s
 | m0,.rangeFunc g ⟨ps⟩ x y,k,s,ks=>VZ E A m0 (wA x&&wA y) ps (fun m s ks=>den E bN A m x k s ks) (fun m s ks=>den E bN A m y k s ks) (acG A.loop x) k s ks (s.val g)
 | _,_,_,_,_=>none
def Ks.at (ks:Ks R) (z:R) (e:Exit) (s':bP) (w':World) (F':Nat→Prop) (bC:Nat→Nat):Prop:=match e with
 | .normal=>ks.n s'=some z
 | .exit i=>ks.x i s'=some z
 | .ret=>ks.r s'=some z
 | .panic l=>∃ u v,l=[{ v:=u,recovered:=false }]∧ks.p v s'=some z∧v.wf s'.H s'.N∧VR w' F' bC (below s'.N) (v.av s'.H) u
 | _=>False
def GR (ks:Ks R) (z:R) (w:World) (F O:Nat→Prop) (μ:Nat→Nat) (m0:Nat) (nt:Nat×Nat):Exit→Act→World→Prop:=fun e a' w'=>
 ∃ s' F' O' bC bZ,zl w F O μ m0 nt s' a' w' F' O' bC bZ∧ks.at z e s' w' F' bC
theorem GR.trans {ks:Ks R} {z:R} {m0:Nat} {nt:Nat×Nat} (hf:Fr w F O μ (below m0) w' F' O' bC) (e:Exit) (a:Act) (xk:World) (h:GR ks z w' F' O' bC m0 nt e a xk):GR ks z w F O μ m0 nt e a xk:=by
 obtain ⟨s',Bs,v8,lG,bZ,h1,h2⟩:=h;exact ⟨s',Bs,v8,lG,bZ,h1.trans hf,h2⟩
theorem aa6 {f:jS} {m0:Nat} {J:L8 f.eR (Option R)} {s:bP} {z:R} {a:Act} (h:aa5 f m0 J s=some z) (ho:s.ok) (hm:m0≤s.N) {n0:Nat×Nat} (hn:PC n0 s a) (hs:SR w F O μ (below s.N) s.st ft a):
  ∃ x s',yJ f.eR J x=some z∧instF s.nt f (fq f.eR x)=some s'∧∃ F' O' bC bZ,zl w F O μ m0 n0 s' a w F' O' bC bZ:=by
 unfold aa5 at h;split at h
 ·rename_i ds tt;split at h
  ·rename_i x hx;obtain ⟨v1,v2,v3,_,KC,Wz,v4,v5⟩:=JA (Oy m0 f.dc s m0++PE m0 f.dc s f.Y4) ho hs;obtain ⟨s',h1,h2,h3,h4,h5⟩:=aaM tt (Nat.le_trans hm v2);obtain ⟨F',O',bC,bZ,k1,k2⟩:=h5 v4;exact ⟨x,s',h,by rw [ml hx,← v3];exact h1,F',O',bC,bZ,h2,h4,hn.to (h3.trans v3),k1,(v5.OT fun id (bY:id < m0)=>(show id < s.N by omega)).trans k2⟩
  ·cases h
 ·cases h
theorem BE {f:jS} {m0:Nat} {J:L8 f.eR (Option R)} {s:bP} {z:R} {a:Act} (h:Df f m0 J s=some z) (ho:s.ok) (hm:m0≤s.N) {n0:Nat×Nat} (hn:PC n0 s a) (hs:SR w F O μ (below s.N) s.st ft a):
  ∃ x s',yJ f.eR J x=some z∧instF s.nt f (fq f.eR x)=some s'∧∃ F' O' bC bZ,zl w F O μ m0 n0 s' a w F' O' bC bZ:=by
 obtain ⟨y1,y2,y3,_,Wz,y4⟩:=Jl (Aa s.H) ho hs;unfold Df at h;generalize th s (Aa s.H)=s0 at h y1 y2 y3 y4;rw [← y2] at y4;have:=aa6 h y1 (by rw [y2];exact hm) (hn.to y3) y4;rw [y3] at this;exact this
theorem BF {f:jS} {nt:Nat} {X:bP→Option R} {x:zj f.eR} {s':bP} (h:instF nt f (fq f.eR x)=some s'):yJ f.eR (E3 f nt X) x=X s':=by
 unfold E3;rw [xI,h]
def Ad (r:Option Nat) (P:Program) (c:Code) (Q:Exit→Act→World→Prop) (a:Act) (w:World):Prop:=
 ∀ (b:Frame) (k:List Item) (cs:List Frame),b.roundOf=r→∃ e a' w',Q e a' w'∧ArrivesIn (Machine.fenced P (Wr r)) P (lone (b.atR a (.code c::.inLoop c::k)) cs w) b k cs e a' w'
theorem Ae {r:Option Nat} {m:Machine}:m.fenced P (Wr r):=fenced_wide P m
theorem Ad.wp {r:Option Nat} {c:Code} {Q:Exit→Act→World→Prop} {a:Act} (h:Ad r P c Q a w):(Code.loop c).wpIn (Wr r) 0 P Q a w:=by
 intro b k cs hb _ _;obtain ⟨e,a',w',hq,H_⟩:=h b k cs hb;exact ⟨e,a',w',hq,.of_steps (.one Ae stepR_loop) H_⟩
theorem Ad.round {r:Option Nat} {c:Code} {Q:Exit→Act→World→Prop} {a:Act} (h:c.wpIn (Wr r) 0 P (Exit.then (Ad r P c Q) Q) a w):Ad r P c Q a w:=by
 intro b k cs hb;obtain ⟨e,OA,OB,hq,H_⟩:=h b (.inLoop c::k) cs hb trivial (room_wide _);cases e with
 | normal=>
  obtain ⟨ag8,ag9,ag_,afJ,acH⟩:=hq b k cs hb;exact ⟨ag8,ag9,ag_,afJ,.of_steps (StepsIn.trans H_ (.one Ae stepR_inLoop)) acH⟩
 | exit id=>exact ⟨_,OA,OB,hq,.pass (x:=.inLoop c) rfl (fun _ _=>.inl (by simp)) H_⟩
 | goto l=>exact ⟨_,OA,OB,hq,.pass (x:=.inLoop c) rfl (fun _ _=>.inl (by simp)) H_⟩
 | ret=>exact ⟨_,OA,OB,hq,.pass (x:=.inLoop c) rfl (fun _ _=>.inl (by simp)) H_⟩
 | panic ch=>exact ⟨_,OA,OB,hq,.pass (x:=.inLoop c) rfl (fun _ _=>.inl (by simp)) H_⟩
 | outgrown=>exact ⟨_,OA,OB,hq,.pass (x:=.inLoop c) rfl (fun _ _=>.inl (by simp)) H_⟩
theorem Ad.mono {r:Option Nat} {c:Code} {Q Q':Exit→Act→World→Prop} {a:Act} (hq:∀ e a w,Q e a w→Q' e a w) (h:Ad r P c Q a w):Ad r P c Q' a w:=fun b k cs hb=>
 let ⟨e,a',w',q,r⟩:=h b k cs hb;⟨e,a',w',hq _ _ _ q,r⟩
theorem we {b:Frame} {a:Act} {k:List Item} {cs:List Frame} {c:Code}:step P (lone (b.atR a (.code (.scope c)::k)) cs w)=.next (lone (b.atR a (.code c::.inScope c::k)) cs w):=
 step_lone_go (by simp [stepG,stepG.exec,Frame.atR])
theorem PF {b:Frame} {a:Act} {k:List Item} {cs:List Frame} {c:Code}:step P (lone (b.atR a (.inScope c::k)) cs w)=.next (lone (b.atR a k) cs w):=
 step_lone_go (by simp [stepG,stepG.exec,Frame.atR])
theorem Gt {r:Option Nat} {c:Code} {Q:Exit→Act→World→Prop} {a:Act} (h:c.wpIn (Wr r) 0 P (Exit.noGoto Q) a w):(Code.scope c).wpIn (Wr r) 0 P Q a w:=by
 intro b k cs hb h1 h2;obtain ⟨e,OA,OB,hq,H_⟩:=h b (.inScope c::k) cs hb h1 h2;have e1:∀ i,exitTo i (.inScope c::k)=exitTo i k:=fun i=>by simp [exitTo]
 cases e with
 | normal=>exact ⟨.normal,OA,OB,hq,.head Ae we (StepsIn.trans H_ (.one Ae PF))⟩
 | exit id=>exact ⟨.exit id,OA,OB,hq,.of_steps (.one Ae we) ⟨fun k' hk=>H_.1 k' (by rw [e1];exact hk),fun hr hk=>H_.2 hr (by rw [e1];exact hk)⟩⟩
 | goto l=>exact hq.elim
 | ret=>exact ⟨_,OA,OB,hq,.of_steps (.one Ae we) H_⟩
 | panic ch=>exact ⟨_,OA,OB,hq,.of_steps (.one Ae we) H_⟩
 | outgrown=>exact ⟨_,OA,OB,hq,.of_steps (.one Ae we) H_⟩
def aa7 (P:Program) (z:R) (D:Nat→Nat→bP→Ks R→Option R) (c:Code) (K0:Nat):Prop:=
 ∀ (m0:Nat) (n0:Nat×Nat) (ro:Option Nat) (k:Nat) (s:bP) (ks:Ks R),D m0 k s ks=some z→(ro=none∨wA c=true)→k≤K0→s.ok→m0≤s.N→
  ∀ {w:World} {F O:Nat→Prop} {μ:Nat→Nat} {ft:Nat→Nat→Prop} {a:Act},n0.2≤w.heap.size→PC n0 s a→SR w F O μ (below s.N) s.st ft a→c.wpIn (Wr ro) 0 P (GR ks z w F O μ m0 n0) a w
theorem Sc (w:World) (o1 o2:Obj):Gw w ((w.alloc o1).alloc o2) where
 os:=rfl
 tape:=rfl
 output:=rfl
 size:=by simp;omega
 same:=fun b hb=>by rw [Below.heap_alloc _ _ _ (by simp;omega),Below.heap_alloc _ _ _ hb]
theorem HR.more {H:Hp} (h:HR w F O μ K H ft) (hF:∀ b,F b→F' b) (hw:∀ b,F' b→b < w.heap.size) (hO:∀ b,O b→¬ F' b):HR w F' O μ K H ft where
 lt:=h.lt
 known:=h.known
 dC:=fun id b hb hl=>by
  obtain ⟨o,ho,hB⟩:=h.dC id b hb hl;exact ⟨o,ho,hB.mono (fun _ _=>rfl) hF (fun _ _=>rfl) (fun _ h=>h) (fun _ _=>rfl) fun _ _ _=>rfl⟩
 self:=h.self
 own:=h.own
 dj:=h.dj
 zc:=hO
 wf:=hw
 rT:=h.rT
 pos:=h.pos.mono (Nat.le_refl _) hF fun _ _=>rfl
theorem aa8 {E:Env} {A:Ann} {z:R} {K0 m0:Nat} {n0:Nat×Nat} {D1 D2:Nat→Nat→bP→Ks R→Option R} {x y:Code} {ps:List Nat} {g:Operand} {k:Nat} {s:bP} {ks:Ks R} {fr:Option jS} {a:Act} (hI:∀ k,k≤K0→∀ c,c∈A.it k→JY E.P c)
  (ih1:aa7 E.P z D1 x K0) (ih2:aa7 E.P z D2 y K0) (h:VZ E A m0 (wA x&&wA y) ps (fun m s ks=>D1 m k s ks) (fun m s ks=>D2 m k s ks) fr k s ks (s.val g)=some z)
  (xq:k≤K0) (ho:s.ok) (hm:m0≤s.N) (fV:n0.2≤w.heap.size) (hn:PC n0 s a) (hs:SR w F O μ (below s.N) s.st ft a):
  (Code.rangeFunc g ⟨ps⟩ x y).wpIn (Wr none) 0 E.P (GR ks z w F O μ m0 n0) a w:=by
 unfold VZ at h;split at h
 ·rename_i fi AD hg;split at h
  ·rename_i f o_;simp only [Bool.and_eq_true] at o_;obtain ⟨⟨hx,hy⟩,hps⟩:=o_;obtain ⟨c,ds,xv,xs,hc,hf,he,hcx,hL,h0⟩:=LC h;clear h;split at h0
   ·rename_i hlen;have hlen:=Nat.eq_of_beq_eq_true hlen;subst hf;obtain ⟨d,s',h1,h2,F1,O1,KC,Wz,hh⟩:=BE h0 ho hm hn hs;obtain ⟨Uj,afK⟩:=hI k xq c hc;have hgv:=bX hg hs;simp only [TA.av,dD] at hgv;obtain ⟨v0,us,EO,Y5,RC⟩:=hgv.Kq;have Y5:=Y5.iK;subst Y5;obtain ⟨cas,ca1,ca2⟩:=OC he
    let aeD:Loop:={ state:=.ready,pending:=none,fn:=0,tmps:=a.tmps,params:=⟨ps⟩,assign:=x,body:=y,defers:=w.heap.size }
    let aM:Act:={ a with defers:=[yV w.heap.size]++a.defers }
    refine wpIn_rangeFunc fun fn _=>?_
    let CL:Loop:={ aeD with fn:=fn }
    let W1:World:=(w.alloc (.deferred (some []))).alloc (.loop CL)
    have gw:Gw w W1:=Sc w _ _;have hW1:W1.heap.size=w.heap.size+2:=by simp [W1]
    have aha:W1.heap[w.heap.size+1]?=some (.loop CL):=by
     have:=World.alloc_heap_new (w.alloc (.deferred (some []))) (.loop CL);simpa [W1] using this
    have afL:W1.heap[w.heap.size]?=some (.deferred (some [])):=by
     have e:W1.heap[w.heap.size]?=(w.alloc (.deferred (some []))).heap[w.heap.size]?:=Below.heap_alloc _ _ _ (by simp);rw [e];exact World.alloc_heap_new w _
    have hdf:wx W1 F1 O1 aM.defers:=by
     refine ⟨List.nodup_cons.2 ⟨fun KM=>?_,hh.sr.df.nd⟩,fun d' NO=>?_⟩
     ·obtain ⟨b,e1,_,_,e4⟩:=hh.sr.df.all _ KM;have e:w.heap.size=b:=by simpa [yV] using e1
      have:=(Array.getElem?_eq_some_iff.1 e4).1;omega
     ·rcases List.mem_cons.1 NO with e | e
      ·exact ⟨w.heap.size,e,fun h=>by have:=hh.sr.hr.rT _ h;omega,fun h=>by have:=hh.sr.hr.wf _ h;omega,afL⟩
      ·obtain ⟨b,e1,e2,e3,e4⟩:=hh.sr.df.all _ e;exact ⟨b,e1,e2,e3,by rw [gw.same b (Array.getElem?_eq_some_iff.1 e4).1];exact e4⟩
    have hmk:∀ b,yV b∈aM.defers→b < W1.heap.size:=fun b hb=>by
     obtain ⟨b',e1,_,_,e4⟩:=hdf.all _ hb;have e:b=b':=by simpa [yV] using e1
     rw [e];exact (Array.getElem?_eq_some_iff.1 e4).1
    have ahb:∀ {s1:bP},PC n0 s1 a→PC n0 s1 aM:=fun h=>⟨h.1,fun b hb=>by
     rcases List.mem_cons.1 hb with e | e
     ·have e:b=w.heap.size:=by simpa [yV] using e
      omega
     ·exact h.2 b e⟩
    have hh1:zl w F O μ m0 n0 s' aM W1 F1 O1 KC Wz:=⟨hh.ok,hh.le,ahb hh.nt,⟨hh.sr.hr.gw gw,hh.sr.nt,fun t=>(hh.sr.tm t).step hh.sr.hr gw.fr fun _ h=>h,hdf⟩,hh.fr.trans gw.fr⟩
    let L:Nat:=w.heap.size+1
    let body:zj c.eR→L8 f.eR (Option R)→L8 f.eR (Option R):=fun q=>VY ps s.nt f m0 (fun m s ks=>D1 m k s ks) (fun m s ks=>D2 m k s ks) ks (fq c.eR q)
    let done:L8 f.eR (Option R):=E3 f s.nt ks.n
    let J:List (zj c.eR)→World→(Nat→Prop)→(Nat→Prop)→Prop:=fun ys w' Fi Oi=>∃ (Fo Oo:Nat→Prop) (Y7:Nat→Nat) (fto:Nat→Nat→Prop) (st:LoopState) (p:Option Code) (Ia:bP),
     w'.heap[L]?=some (.loop { CL with state:=st,pending:=p })∧KS w' Fo Oo L∧(∀ b,Fi b→Fo b)∧(∀ b,Oi b→W1.heap.size≤b∧KS w' Fo Oo b)∧zl w F O μ m0 n0 Ia aM w' Fo Oo Y7 fto∧
     ((st=.ready∧p=none∧∃ d,yJ f.eR (Ii body done ys) d=some z∧instF s.nt f (fq f.eR d)=some Ia)∨
      (ys=[]∧st=.done∧∃ cj e,p=some cj∧((cj=.ret∧e=Exit.ret)∨∃ i,cj=.exit i∧e=Exit.exit i)∧(∀ (w':World) (F':Nat→Prop) (bC:Nat→Nat),ks.at z e Ia w' F' bC)))
    have hJ0:J xs W1 F1 (fun _=>False):=
     ⟨F1,O1,KC,Wz,.ready,none,s',aha,⟨by rw [hW1];omega,fun h=>by have:=hh.sr.hr.wf _ h;omega,fun h=>by have:=hh.sr.hr.rT _ h;omega⟩,fun _ h=>h,fun _ h=>h.elim,hh1,.inl ⟨rfl,rfl,d,h1,h2⟩⟩
    have afM:YG J:=by
     rintro ys w1 w2 Fi Oi Fi' Oi' μi ahF Ki ⟨Fo,Oo,Y7,fto,st,p,Ia,j1,j2,j3,j4,j5,j6⟩ wf1 wf2 ze
     have hr:=j5.sr.hr;have hL1:W1.heap.size≤w1.heap.size:=by have:=j2.1;rw [hW1];show w.heap.size+2≤_;have:w.heap.size+1 < w1.heap.size:=this;omega
     have noi:∀ b,Fo b∨Oo b→¬ Oi b:=fun b hb hi=>hb.elim (j4 b hi).2.2.1 (j4 b hi).2.2.2;have lt1:∀ b,Fo b∨Oo b→b < w1.heap.size:=fun b hb=>hb.elim (hr.wf b) (hr.rT b);have kp:Kp w1 w2 Fo Oo:=⟨ze.os,ze.tape,ze.output,ze.size,fun b hb=>ze.same b (lt1 b hb) (noi b hb),ze.shape⟩;have hLi:¬ Oi L:=fun h=>by have:=(j4 L h).1;rw [hW1] at this;have:w.heap.size+2≤w.heap.size+1:=this;omega
     have fo':∀ b,(Fo b∨Fi' b)→Fo b∨w1.heap.size≤b∨Oi b:=fun b hb=>hb.elim .inl fun h=>(ze.HK b h).elim (fun h=>.inl (j3 b h)) .inr;have hOo:∀ b,Oo b→¬ (Fo b∨Fi' b):=fun b hb h=>by
      rcases fo' b h with h | h | h
      ·exact hr.zc b hb h
      ·have:=hr.rT b hb;omega
      ·exact noi b (.inr hb) h
     have hwf:∀ b,(Fo b∨Fi' b)→b < w2.heap.size:=fun b hb=>hb.elim (fun h=>Nat.lt_of_lt_of_le (hr.wf b h) ze.size) (wf2.wf b);have hr2:HR w2 (fun b=>Fo b∨Fi' b) Oo Y7 (below Ia.N) Ia.st.H fto:=(hr.kp kp).more (fun b h=>.inl h) hwf hOo;refine ⟨fun b=>Fo b∨Fi' b,Oo,Y7,fto,st,p,Ia,by rw [ze.same L j2.1 hLi];exact j1,⟨Nat.lt_of_lt_of_le j2.1 ze.size,fun h=>?_,j2.2.2⟩,fun b h=>.inr h,fun b hb=>?_,⟨j5.ok,j5.le,j5.nt,⟨hr2,j5.sr.nt,fun t=>?_,?_⟩,?_⟩,j6⟩
     ·rcases fo' L h with h | h | h
      ·exact j2.2.1 h
      ·have:=j2.1;omega
      ·exact hLi h
     ·have UJ:=wf2.rT b hb;rcases ze.EE b hb with h | h
      ·obtain ⟨m1,m2,m3,m4⟩:=j4 b h;exact ⟨m1,UJ,fun h=>h.elim m3 (wf2.zc b hb),m4⟩
      ·exact ⟨Nat.le_trans hL1 h,UJ,fun h'=>h'.elim (fun h'=>by have:=hr.wf b h';omega) (wf2.zc b hb),fun h'=>by have:=hr.rT b h';omega⟩
     ·exact ((j5.sr.tm t).kp hr kp).mono (fun _ _=>rfl) (fun _ h=>.inl h) (fun _ _=>rfl) (fun _ h=>h) fun _ _=>rfl
     ·refine ⟨j5.sr.df.nd,fun d' NO=>?_⟩;obtain ⟨b,e1,e2,e3,e4⟩:=j5.sr.df.all d' NO;have V7:b < w1.heap.size:=(Array.getElem?_eq_some_iff.1 e4).1;have hbi:¬ Oi b:=fun h=>by have:=(j4 b h).1;have:=hmk b (e1▸NO);omega
      refine ⟨b,e1,e2,fun h=>?_,by rw [ze.same b V7 hbi];exact e4⟩;rcases fo' b h with h | h | h
      ·exact e3 h
      ·omega
      ·exact hbi h
     ·have dQ:w.heap.size≤w1.heap.size:=by have:=hW1;omega
      refine { os:=ze.os.trans j5.fr.os,tape:=ze.tape.trans j5.fr.tape,output:=ze.output.trans j5.fr.output,size:=Nat.le_trans j5.fr.size ze.size,mu:=j5.fr.mu,Aw:=fun b h=>.inl (j5.fr.Aw b h),shape:=fun b hb=>(ze.shape b (by omega)).trans (j5.fr.shape b hb),same:=fun b hb hn=>(ze.same b (by omega) fun h=>by have:=(j4 b h).1;omega).trans (j5.fr.same b hb hn),EE:=j5.fr.EE,HK:=fun b hb=>?_ };rcases fo' b hb with h | h | h
      ·exact j5.fr.HK b h
      ·exact .inr (.inl (by omega))
      ·exact .inr (.inl (by have:=(j4 b h).1;omega))
    have V0:OD E.P L c.eR J:=by
     rintro q r w1 Fi Oi μi vs ⟨Fo,Oo,Y7,fto,st,p,Ia,j1,j2,j3,j4,j5,j6⟩ wf1 zd
     rcases j6 with ⟨rfl,rfl,d,d1,d2⟩ | ⟨aev,_⟩
     case inr=>cases aev
     have hvl:vs.length=ps.length:=by rw [← zd.1,List.length_map,GS,hlen]
     refine ⟨fn,_,x,y,run_yield j1 (by simp [CL,aeD,hvl]),?_⟩;simp only [CL,aeD];rw [acI];have hr:=j5.sr.hr;have hsN:Ia.nt=s.nt:=j5.nt.1.trans hn.1.symm;have Bo:SR w1 Fo Oo Y7 (below (Ia.args ps (fq c.eR q)).N) (Ia.args ps (fq c.eR q)).st fto { tmps:=(ps.zip vs).foldl (fun tmps (t,v)=>tmps.setIfInBounds t v) a.tmps,defers:=[] }:=by
      refine ⟨hr,?_,fun t=>?_,wx.nil⟩
      ·show ((ps.zip vs).foldl (fun tmps (t,v)=>tmps.setIfInBounds t v) a.tmps).size=Ia.nt;rw [OE];exact j5.sr.nt
      ·refine W6 (nt:=Ia.nt) (vs:=vs) ⟨by simpa using zd.1,fun i hi=>?_⟩ j5.sr.nt (by rw [hsN];exact hps) j5.sr.tm t;exact ((zd.2 i hi).mono (fun _ _=>rfl) j3 (fun _ h=>h.elim) (fun _ h=>h.elim) fun _ h=>h.elim:VR w1 Fo Y7 _ _ _)
     have aeE:(Ia.args ps (fq c.eR q)).ok:=⟨Sd j5.ok.tm ps,j5.ok.H⟩;have hd:yJ f.eR (body q (Ii body done r)) d=some z:=d1;simp only [body,VY] at hd;rw [BF d2] at hd;have hL1:w.heap.size≤L:=by show w.heap.size≤w.heap.size+1;omega
     refine roundIn_of_wpIn trivial (Code.wpIn_mono ?_ (ih1 Ia.N (Ia.nt,0) (some L) k _ _ hd (.inr hx) xq aeE (Nat.le_refl _) (Nat.zero_le _) ⟨rfl,fun _ _=>Nat.zero_le _⟩ Bo))
     rintro e a1 w2 ⟨s1,F2,O2,Gq,Lu,k2,hk⟩
     cases e with
     | normal=>
      simp only [Ks.at] at hk;have l2:=j2.step k2.fr;have adk:w2.heap[L]?=some (.loop { CL with state:=.ready,pending:=none }):=by rw [j2.same k2.fr];exact j1
      obtain ⟨ra,afN⟩:=Fy (r':={ CL with state:=.busy,pending:=none }) adk;refine ⟨_,run_beginRound adk rfl,?_⟩;have kp3:=ra.kp l2.2.1 l2.2.2;have acJ:SR (w2.putObj L (.loop { CL with state:=.busy,pending:=none })) F2 O2 Gq (below s1.N) s1.st Lu a1:=⟨k2.sr.hr.kp kp3,k2.sr.nt,fun t=>(k2.sr.tm t).kp k2.sr.hr kp3,ra.df k2.sr.df⟩;have l3:=l2.AB ra;refine Code.wpIn_mono ?_ (ih2 Ia.N (Ia.nt,0) (some L) k s1 _ hk (.inr hy) xq k2.ok k2.le (Nat.zero_le _) k2.nt acJ)
      rintro e a2 w4 ⟨s2,F4,O4,μ4,ft4,k4,hk4⟩
      have l4:=l3.step k4.fr;have adl:w4.heap[L]?=some (.loop { CL with state:=.busy,pending:=none }):=by rw [l3.same k4.fr];exact afN
      have fin:∀ (jump:Option Code) (r':Loop),r'={ CL with state:=(if jump.isNone then .ready else .done),pending:=jump }→∃ w5,(Instr.endRound L jump).run E.P w4=.ok (.bool jump.isNone) w5∧w5.heap[L]?=some (.loop r')∧Kp w1 w5 Fi Oi∧KS w5 F4 O4 L∧(∀ b,Fi b→F4 b)∧
        (∀ b,Oi b→W1.heap.size≤b∧KS w5 F4 O4 b)∧(Ia.back s2).ok∧zl w F O μ m0 n0 (Ia.back s2) aM w5 F4 O4 μ4 ft4:=by
       rintro jump r' rfl
       obtain ⟨rb,afO⟩:=Fy (r':={ CL with state:=(if jump.isNone then .ready else .done),pending:=jump }) adl;have l5:=l4.AB rb;have kp5:=rb.kp l4.2.1 l4.2.2;have vst:∀ {xx vv},VR w1 Fo Y7 (below Ia.N) xx vv→VR (w4.putObj L (.loop { CL with state:=(if jump.isNone then .ready else .done),pending:=jump })) F4 μ4 (below s2.N) xx vv:=fun {xx vv} hv=>by
        have v2:=hv.step hr k2.fr fun id (h:id < Ia.N)=>(Nat.lt_of_lt_of_le h k2.le:id < s1.N);have v2':VR w2 F2 Gq (below Ia.N) xx vv:=hv.step hr k2.fr fun _ h=>h;have v3:=v2'.mono (w':=w2.putObj L (.loop { CL with state:=.busy,pending:=none })) (F':=F2) (bC:=Gq) (fun b hb=>kp3.LX b (.inl hb)) (fun _ h=>h) (fun _ _=>rfl) (fun _ h=>h) fun id bY=>kp3.shape _ (k2.sr.hr.lt id (Nat.lt_of_lt_of_le bY k2.le));have v4:=v3.mono (w':=w4) (F':=F4) (bC:=μ4) (K':=below s2.N) (fun b hb=>k4.fr.frozen acJ.hr b hb) k4.fr.Aw (fun id bY=>k4.fr.mu id bY) (fun id (h:id < Ia.N)=>Nat.lt_of_lt_of_le h k4.le) fun id bY=>k4.fr.shape _ (acJ.hr.lt id (Nat.lt_of_lt_of_le bY k2.le));exact v4.kp k4.sr.hr kp5
       have dfr:wx w1 Fo Oo aM.defers:=j5.sr.df;have df5:=rb.df ((ra.df (dfr.step k2.fr)).step k4.fr);have ahc:SR (w4.putObj L (.loop { CL with state:=(if jump.isNone then .ready else .done),pending:=jump })) F4 O4 μ4 (below s2.N) s2.st ft4 a2:=⟨k4.sr.hr.kp kp5,k4.sr.nt,fun t=>(k4.sr.tm t).kp k4.sr.hr kp5,rb.df k4.sr.df⟩;obtain ⟨bk1,bk2⟩:=acK (a:=aM) j5.ok k4.ok j5.sr ahc vst df5;have OT:∀ id,id < m0→id < Ia.N:=fun id h=>Nat.lt_of_lt_of_le h j5.le;have ahd:∀ b,Oi b→KS w4 F4 O4 b:=fun b hb=>(((j4 b hb).2.step k2.fr).AB ra).step k4.fr;have ne:∀ b,Fi b∨Oi b→b≠L:=fun b hb e=>by
        subst e;exact hb.elim (fun h=>j2.2.1 (j3 _ h)) fun h=>by
         have h1:=(j4 _ h).1;rw [hW1] at h1;have:w.heap.size+2≤w.heap.size+1:=h1;omega
       refine ⟨_,run_endRound jump adl,afO,?_,l5,fun b hb=>k4.fr.Aw b (k2.fr.Aw b (j3 b hb)),fun b hb=>⟨(j4 b hb).1,(ahd b hb).AB rb⟩,bk1,⟨bk1,Nat.le_trans j5.le k4.le,⟨j5.nt.1,j5.nt.2⟩,bk2,?_⟩⟩
       ·have lt1:∀ b,Fi b∨Oi b→b < w1.heap.size:=fun b hb=>hb.elim (wf1.wf b) (wf1.rT b);have afP:∀ b,Fi b∨Oi b→w2.heap[b]?=w1.heap[b]?:=fun b hb=>hb.elim (fun h=>k2.fr.frozen hr b (j3 b h)) fun h=>(j4 b h).2.same k2.fr;refine ⟨rb.os.trans (k4.fr.os.trans (ra.os.trans k2.fr.os)),rb.tape.trans (k4.fr.tape.trans (ra.tape.trans k2.fr.tape)),rb.output.trans (k4.fr.output.trans (ra.output.trans k2.fr.output)),?_,fun b hb=>?_,fun b hb=>?_⟩
        ·rw [rb.size];exact Nat.le_trans k2.fr.size (Nat.le_trans (Nat.le_of_eq ra.size.symm) k4.fr.size)
        ·rw [rb.same b (ne b hb)];have e4:w4.heap[b]?=(w2.putObj L (.loop { CL with state:=.busy,pending:=none })).heap[b]?:=hb.elim (fun h=>k4.fr.frozen acJ.hr b (k2.fr.Aw b (j3 b h))) fun h=>(((j4 b h).2.step k2.fr).AB ra).same k4.fr;rw [e4,ra.same b (ne b hb),afP b hb]
        ·rw [rb.shape b];have hb3:b < (w2.putObj L (.loop { CL with state:=.busy,pending:=none })).heap.size:=by rw [ra.size];exact Nat.lt_of_lt_of_le hb k2.fr.size
         rw [k4.fr.shape b hb3,ra.shape b,k2.fr.shape b hb]
       ·exact ((((j5.fr.trans (k2.fr.OT OT)).AB ra hL1).trans (k4.fr.OT OT)).AB rb hL1)
      cases e with
      | normal=>
       simp only [Ks.at] at hk4;obtain ⟨w5,e1,e2,e3,e4,e5,e6,e7,e8⟩:=fin none _ rfl;refine ⟨_,w5,e1,true,rfl,e3,?_⟩;obtain ⟨d',s3,g1,g2,F6,O6,μ6,ft6,g3⟩:=BE hk4 e7 e8.le e8.nt e8.sr;refine ⟨F6,O6,μ6,ft6,.ready,none,s3,by simpa using e2,e4.step g3.fr,fun b hb=>g3.fr.Aw b (e5 b hb),fun b hb=>⟨(e6 b hb).1,(e6 b hb).2.step g3.fr⟩,⟨g3.ok,g3.le,g3.nt,g3.sr,e8.fr.trans g3.fr⟩,.inl ⟨rfl,rfl,d',g1,?_⟩⟩;rw [← hsN];exact g2
      | ret=>
       simp only [Ks.at] at hk4;obtain ⟨w5,e1,e2,e3,e4,e5,e6,e7,e8⟩:=fin (some .ret) _ rfl;exact ⟨_,w5,e1,false,rfl,e3,F4,O4,μ4,ft4,.done,some .ret,Ia.back s2,by simpa using e2,e4,e5,e6,e8,.inr ⟨rfl,rfl,.ret,.ret,rfl,.inl ⟨rfl,rfl⟩,fun _ _ _=>hk4⟩⟩
      | exit i=>
       simp only [Ks.at] at hk4;obtain ⟨w5,e1,e2,e3,e4,e5,e6,e7,e8⟩:=fin (some (.exit i)) _ rfl;exact ⟨_,w5,e1,false,rfl,e3,F4,O4,μ4,ft4,.done,some (.exit i),Ia.back s2,by simpa using e2,e4,e5,e6,e8,.inr ⟨rfl,rfl,.exit i,.exit i,rfl,.inr ⟨i,rfl,rfl⟩,fun _ _ _=>hk4⟩⟩
      | goto i=>exact hk4.elim
      | panic l=>obtain ⟨_,_,_,h,_⟩:=hk4;cases h
      | outgrown=>exact hk4.elim
     | ret=>cases hk
     | exit i=>cases hk
     | goto i=>exact hk.elim
     | panic l=>obtain ⟨_,_,_,h,_⟩:=hk;cases h
     | outgrown=>exact hk.elim
    have lH:=afK xv xs hL cas (by rw [ml hcx];exact ca1) W1 F1 μ us ?_ hh1.sr.hr.wf hh1.sr.hr.pos L J afM V0 hJ0
    ·refine ⟨L,[yV w.heap.size],W1,⟨.fn (.func c.f) ⟨us⟩,#[]++#[.func (.yield L) #[] #[]]⟩,W1,c.f,⟨.func (.yield L) ⟨[]⟩ ⟨[]⟩::us⟩,W1,run_enterLoop_outer _ _ _ _ _,?_,fun _ _=>trivial,?_,(fun h=>by cases h),CallsIn.mono lH ?_⟩
     ·simp [resolve,EO,Deferred.ofValue];rfl
     ·have:=Uj ⟨.func (.yield L) ⟨[]⟩ ⟨[]⟩::us⟩ W1;simp only [invoke];simpa using this
     ·rintro e w' ⟨v,F',O',rfl,Fo,Oo,Y7,fto,st,p,Ia,j1,j2,j3,j4,j5,j6⟩
      have hL1:w.heap.size≤L:=by show w.heap.size≤w.heap.size+1;omega
      rcases j6 with ⟨rfl,rfl,d,d1,d2⟩ | ⟨_,rfl,cj,e,rfl,hce,hat⟩
      ·refine ⟨none,_,run_endLoop j1 (by simp),?_⟩;obtain ⟨ra,_⟩:=Fy (r':={ CL with state:=.exhausted,pending:=none }) j1;have hd:yJ f.eR (E3 f s.nt ks.n) d=some z:=d1;rw [BF d2] at hd;exact ⟨Ia,Fo,Oo,Y7,fto,j5.AB ra hL1 j2.2.1 j2.2.2,hd⟩
      ·refine ⟨some cj,_,run_endLoop j1 (by simp),?_⟩;obtain ⟨ra,_⟩:=Fy (r':={ CL with state:=.exhausted,pending:=some cj }) j1;have hhe:=j5.AB ra hL1 j2.2.1 j2.2.2;rcases hce with ⟨rfl,rfl⟩ | ⟨i,rfl,rfl⟩
       ·exact wpIn_ret ⟨Ia,Fo,Oo,Y7,fto,hhe,hat _ _ _⟩
       ·exact wpIn_exit ⟨Ia,Fo,Oo,Y7,fto,hhe,hat _ _ _⟩
    ·have ze:Fr w F O μ (below m0) W1 F1 O1 KC:=hh.fr.trans gw.fr;have OU:=ca2 RC;exact ⟨OU.1,fun i hi=>(OU.2 i hi).mono (fun b hb=>ze.frozen hs.hr b hb) ze.Aw (fun _ h=>h.elim) (fun _ h=>h) fun _ h=>h.elim⟩
   ·cases h0
  ·cases h
 ·cases h
theorem aeF {E:Env} {bN:Nat→List CT} {A:Ann} {z:R} {K0:Nat} (hE:∀ k,k≤K0→xo E (bN k)) (hI:∀ k,k≤K0→∀ c,c∈A.it k→JY E.P c) (bF:E.P.follows .mixedOrders=true):∀ (c:Code),aa7 E.P z (fun m k s ks=>den E bN A m c k s ks) c K0:=by
 intro c
 induction c with
 | skip=>
  intro m0 n0 ro k s ks h Qw xq ho hm w F O μ ft a fV hn hs;exact wpIn_skip ⟨s,F,O,μ,ft,.refl ho hm hn hs,h⟩
 | label l=>
  intro m0 n0 ro k s ks h Qw xq ho hm w F O μ ft a fV hn hs;exact wpIn_label ⟨s,F,O,μ,ft,.refl ho hm hn hs,h⟩
 | exit id=>
  intro m0 n0 ro k s ks h Qw xq ho hm w F O μ ft a fV hn hs;exact wpIn_exit ⟨s,F,O,μ,ft,.refl ho hm hn hs,h⟩
 | ret=>
  intro m0 n0 ro k s ks h Qw xq ho hm w F O μ ft a fV hn hs;exact wpIn_ret ⟨s,F,O,μ,ft,.refl ho hm hn hs,h⟩
 | goto l=>intro m0 n0 ro k s ks h;simp [den] at h
 | refuse l=>intro m0 n0 ro k s ks h;simp [den] at h
 | rangeFunc g ps x y ih1 ih2=>
  intro m0 n0 ro k s ks h Qw xq ho hm w F O μ ft a fV hn hs;obtain ⟨ps⟩:=ps;have hro:ro=none:=Qw.resolve_right (by simp [wA]);subst hro;simp only [den] at h;exact aa8 hI ih1 ih2 h xq ho hm fV hn hs
 | region id ops draw=>
  intro m0 n0 ro k s ks h Qw xq ho hm w F O μ ft a fV hn hs;obtain ⟨ops⟩:=ops;cases draw with
  | false=>
   simp only [den] at h;refine wpIn_region_list (Ua (hE k xq) h ho hm hn hs (fun s' a' w' F' O' bC bZ h1 h2=>⟨s',F',O',bC,bZ,h2,h1⟩) fun v u s' a' w' F' O' bC bZ h1 hw h2 h3=>⟨s',F',O',bC,bZ,h3,u,v,rfl,h1,hw,h2⟩)
  | true=>
   simp only [den] at h;split at h
   ·unfold adj at h;split at h
    ·split at h
     ·exact V1 (hE k xq) bF h ho hm hn hs fun s' a' w' F' O' bC bZ h1 h2=>⟨s',F',O',bC,bZ,h2,h1⟩
     ·cases h
    ·exact YF (hE k xq) bF h ho hm hn hs fun s' a' w' F' O' bC bZ h1 h2=>⟨s',F',O',bC,bZ,h2,h1⟩
   ·cases h
 | seq x y ihx ihy=>
  intro m0 n0 ro k s ks h Qw xq ho hm w F O μ ft a fV hn hs;have acL:wA (.seq x y)=true→wA x=true:=fun h=>by simp only [wA,Bool.and_eq_true] at h;exact h.1
  have acM:wA (.seq x y)=true→wA y=true:=fun h=>by simp only [wA,Bool.and_eq_true] at h;exact h.2
  simp only [den] at h;refine wpIn_seq ?_;split at h
  ·rename_i f hf;simp only [share] at h;refine Code.wpIn_mono ?_ (ihx m0 n0 ro k s _ h (Qw.imp id acL) xq ho hm fV hn hs)
   rintro e a' w' ⟨s',F',O',bC,bZ,hh,hk⟩
   cases e with
   | normal=>
    obtain ⟨x,s2,h1,h2,F2,O2,Gq,Lu,h3⟩:=BE (w:=w') (F:=F') (O:=O') (μ:=bC) (ft:=bZ) (a:=a') hk hh.ok hh.le hh.nt hh.sr;have h2':instF s.nt f (fq f.eR x)=some s2:=by rw [hn.1,← hh.nt.1];exact h2
    rw [BF h2'] at h1;exact Code.wpIn_mono (GR.trans (hh.fr.trans h3.fr)) (ihy m0 n0 ro k s2 ks h1 (Qw.imp id acM) xq h3.ok h3.le (Nat.le_trans fV hh.fr.size) h3.nt h3.sr)
   | _=>exact ⟨s',F',O',bC,bZ,hh,hk⟩
  ·refine Code.wpIn_mono ?_ (ihx m0 n0 ro k s _ h (Qw.imp id acL) xq ho hm fV hn hs)
   rintro e a' w' ⟨s',F',O',bC,bZ,hh,hk⟩
   cases e with
   | normal=>exact Code.wpIn_mono (GR.trans hh.fr) (ihy m0 n0 ro k s' ks hk (Qw.imp id acM) xq hh.ok hh.le (Nat.le_trans fV hh.fr.size) hh.nt hh.sr)
   | _=>exact ⟨s',F',O',bC,bZ,hh,hk⟩
 | cond c x y ihx ihy=>
  intro m0 n0 ro k s ks h Qw xq ho hm w F O μ ft a fV hn hs;have acL:wA (.cond c x y)=true→wA x=true:=fun h=>by simp only [wA,Bool.and_eq_true] at h;exact h.1
  have acM:wA (.cond c x y)=true→wA y=true:=fun h=>by simp only [wA,Bool.and_eq_true] at h;exact h.2
  simp only [den] at h;split at h
  ·rename_i b hb;have hv:=bX hb hs;simp only [TA.av,cR] at hv;cases b with
   | true=>exact wpIn_cond_true hv.fe (ihx m0 n0 ro k s ks h (Qw.imp id acL) xq ho hm fV hn hs)
   | false=>exact wpIn_cond_false hv.fe (ihy m0 n0 ro k s ks h (Qw.imp id acM) xq ho hm fV hn hs)
  ·cases h
 | block id c ih=>
  intro m0 n0 ro k s ks h Qw xq ho hm w F O μ ft a fV hn hs;simp only [den] at h;refine wpIn_block (Code.wpIn_mono ?_ (ih m0 n0 ro k s _ h Qw xq ho hm fV hn hs))
  rintro e a' w' ⟨s',F',O',bC,bZ,hh,hk⟩
  cases e with
  | exit b9=>
   simp only [Ks.at] at hk;simp only [Exit.inBlock];split
   ·rename_i e;subst e;rw [Nat.beq_refl] at hk;exact ⟨s',F',O',bC,bZ,hh,hk⟩
   ·rename_i e;rw [cd e] at hk;exact ⟨s',F',O',bC,bZ,hh,hk⟩
  | _=>exact ⟨s',F',O',bC,bZ,hh,hk⟩
 | scope c ih=>
  intro m0 n0 ro k s ks h Qw xq ho hm w F O μ ft a fV hn hs;simp only [den] at h;refine Gt (Code.wpIn_mono ?_ (ih m0 n0 ro k s _ h Qw xq ho hm fV hn hs))
  rintro e a' w' ⟨s',F',O',bC,bZ,hh,hk⟩
  cases e with
  | goto l=>exact hk.elim
  | _=>exact ⟨s',F',O',bC,bZ,hh,hk⟩
 | loop c ih=>
  intro m0 n0 ro k s ks h Qw xq ho hm w F O μ ft a fV hn hs;simp only [den] at h;split at h
  ·rename_i f hf;have key:∀ (k:Nat),k≤K0→∀ (x:zj f.eR) (s':bP),yJ f.eR (iter k fun k' rec=>E3 f s.nt fun s'=>den E bN A m0 c k' s' { ks with n:=Df f m0 rec }) x=some z→instF s.nt f (fq f.eR x)=some s'→s'.ok→m0≤s'.N→
     ∀ {w:World} {F O:Nat→Prop} {μ:Nat→Nat} {ft:Nat→Nat→Prop} {a:Act},n0.2≤w.heap.size→PC n0 s' a→SR w F O μ (below s'.N) s'.st ft a→Ad ro E.P c (GR ks z w F O μ m0 n0) a w:=by
    intro k
    induction k with
    | zero=>
     intro _ x s' h1;simp only [iter] at h1;rw [xI] at h1;cases h1
    | succ k ihk=>
     intro xq x s' h1 h2 JH Yg w F O μ ft a afQ hn' IC;simp only [iter] at h1;rw [BF h2] at h1;refine Ad.round (Code.wpIn_mono ?_ (ih m0 n0 ro k s' _ h1 Qw (by omega) JH Yg afQ hn' IC))
     rintro e a' w' ⟨s2,F',O',bC,bZ,hh,hk⟩
     cases e with
     | normal=>
      obtain ⟨x',s3,k1,k2,F2,O2,Gq,Lu,k3⟩:=BE (w:=w') (F:=F') (O:=O') (μ:=bC) (ft:=bZ) (a:=a') hk hh.ok hh.le hh.nt hh.sr;have k2':instF s.nt f (fq f.eR x')=some s3:=by rw [hn.1,← hh.nt.1];exact k2
      exact Ad.mono (GR.trans (hh.fr.trans k3.fr)) (ihk (by omega) x' s3 k1 k2' k3.ok k3.le (Nat.le_trans afQ hh.fr.size) k3.nt k3.sr)
     | _=>exact ⟨s2,F',O',bC,bZ,hh,hk⟩
   obtain ⟨x,s',h1,h2,F',O',bC,bZ,h3⟩:=BE h ho hm hn hs;exact (Ad.mono (GR.trans h3.fr) (key k xq x s' h1 h2 h3.ok h3.le fV h3.nt h3.sr)).wp
  ·cases h
end Go.Proofs.YtjkbbdldmdajkaaGreatDoor.c_
