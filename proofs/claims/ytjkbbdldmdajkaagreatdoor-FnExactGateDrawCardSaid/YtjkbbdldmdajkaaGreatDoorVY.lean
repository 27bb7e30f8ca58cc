/- What code computes, as a function of states. No condition. -/
import Derived.Test.YtjkbbdldmdajkaaGreatDoorWI
import Derived.Scope
set_option linter.unusedSimpArgs false
set_option linter.unusedVariables false
namespace Go.Proofs.YtjkbbdldmdajkaaGreatDoor.c5
open Go Go.RowKit
variable {w w' ss:World} {F F' zT O O' uo:Nat→Prop} {μ aZ jE:Nat→Nat} {K K' C9:Nat→Prop} {ft bX:Nat→Nat→Prop} {P:Program} {R:Type}
def share {α β:Type} (x:α) (f:α→β):β:=f x
def iter {ts:List Ty} {R:Type} (k:Nat) (body:Nat→LA ts (Option R)→LA ts (Option R)):LA ts (Option R):=match k with
 | 0=>RS ts fun _=>none
 | k+1=>body k (iter k body)
structure T7 where
 loop:List (Nat×jC)
 join:List (Nat×jC)
 draw:List (Nat×List Nat×List (Nat×List Nat))
 it:Nat→List IT
def afA:List (Nat×jC)→Nat→Option jC
 | [],_=>none
 | (i,f)::r,k=>match Nat.beq k i with
  | true=>some f
  | false=>afA r k
def afB:List (Nat×List Nat×List (Nat×List Nat))→Nat→Option (List Nat×List (Nat×List Nat))
 | [],_=>none
 | (i,f)::r,k=>match Nat.beq k i with
  | true=>some f
  | false=>afB r k
def B3:Code→Option Nat
 | .region id _ _=>some id
 | .seq a b=>match B3 a with
  | some i=>some i
  | none=>B3 b
 | .cond _ a b=>match B3 a with
  | some i=>some i
  | none=>B3 b
 | .block _ c=>B3 c
 | .loop c=>B3 c
 | .scope c=>B3 c
 | .rangeFunc _ _ c _=>B3 c
 | _=>none
def aca (l:List (Nat×jC)) (c:Code):Option jC:=match B3 c with
 | some i=>afA l i
 | none=>none
structure Ks (R:Type) where
 n:bL→Option R
 x:Nat→bL→Option R
 r:bL→Option R
 p:TA→bL→Option R
inductive Place where
 | tm (t:Nat) (ty:Ty) (v:RV)
 | cell (id off:Nat) (ty:Ty) (v:RV)
 | dA (id off:Nat)
 | aei (t:Nat)
def Cy (s:bL):Place→bL
 | .tm t ty v=>match look s.tm t,v.b with
  | .fb,true=>⟨s.nt,s.N+1,(t,.ow s.N)::s.tm,cA s.H [(s.N,some (.row ty v []))]⟩
  | _,_=>s
 | .cell id off ty v=>match aS s.H id,v.b with
  | some (.box l),true=>match l.getD off .top with
   | .fb=>⟨s.nt,s.N+1,s.tm,cA s.H [(id,some (.box (l.set off (.ow s.N)))),(s.N,some (.row ty v []))]⟩
   | _=>s
  | _,_=>s
 | .dA id off=>match aS s.H id with
  | some (.box l)=>match l.getD off .top with
   | .ow j=>match aS s.H j with
    | some (.row ty v xs)=>⟨s.nt,s.N+1,s.tm,cA s.H [(id,some (.box (l.set off (.ow s.N)))),(s.N,some (.row ty v xs)),(j,none)]⟩
    | _=>s
   | _=>s
  | _=>s
 | .aei t=>match look s.tm t with
  | .ow j=>match aS s.H j with
   | some (.row ty v xs)=>⟨s.nt,s.N+1,(t,.ow s.N)::s.tm,cA s.H [(s.N,some (.row ty v xs)),(j,none)]⟩
   | _=>s
  | _=>s
def AW (s:bL):List Place→bL
 | []=>s
 | p::r=>AW (Cy s p) r
theorem aat {s:bL} {a:Act} (ty:Ty) (v:RV) (hs:SR w F O μ (below s.N) s.st ft a):
  HR w F O (Hy μ s.N 0) (below (s.N+1)) (s.st.H.c_ [(s.N,some (.row true (ff ty) 0 (bV v ty [])))]) ft∧Fr w F O μ (below s.N) w F O (Hy μ s.N 0):=by
 have h:=wP (N:=s.N) (bB:=ff ty) (e:=bV v ty []) hs.hr (fun h=>absurd h (by simp [below]));have e:plus (below s.N) [s.N]=below (s.N+1):=yb s.N 1;rw [e] at h;exact h
theorem HR.aho {H H':Hp} (hr:HR w F O μ K H ft) (h:∀ id b',H' id=some b'→∃ b,H id=some b∧(b'.eQ=true→b.eQ=true)∧∀ o,hP w F μ K (ft id) (μ id) o b→hP w F μ K (ft id) (μ id) o b'):HR w F O μ K H' ft:=by
 have lv:∀ id,H'.live id→H.live id:=fun id ⟨b',ck,hl⟩=>by
  obtain ⟨b,h1,h2,_⟩:=h id b' ck;exact ⟨b,h1,h2 hl⟩
 refine { lt:=hr.lt,known:=fun id b' ck=>?_,du:=fun id b' ck hl=>?_,self:=fun id hl=>hr.self id (lv id hl),own:=fun id hl=>hr.own id (lv id hl),dj:=fun id b9 hl BM=>hr.dj id b9 (lv id hl) (lv b9 BM),yl:=hr.yl,wf:=hr.wf,qS:=hr.qS,pos:=hr.pos }
 ·obtain ⟨b,h1,_⟩:=h id b' ck;exact hr.known id b h1
 ·obtain ⟨b,h1,h2,h3⟩:=h id b' ck;obtain ⟨o,ho,hB⟩:=hr.du id b h1 (h2 hl);exact ⟨o,ho,h3 o hB⟩
theorem WI {v:Bool} {j N n bB:Nat} {u:Value} (hN:K N) (PF:(v=true∧n=0)∨μ N=μ j) (h:VR w F μ K (dh v j n bB) u):VR w F μ K (dh v N n bB) u:=by
 cases v with
 | false=>
  have e:μ N=μ j:=by rcases PF with ⟨h,_⟩ | h;cases h;exact h
  simp only [dh] at h ⊢;cases h with
  | ms _ _ _ _ cap sz t bZ hc hs fh=>rw [← e];exact .ms _ _ _ _ cap sz t hN hc (by rw [e];exact hs) fh
 | true=>
  simp only [dh] at h ⊢;cases h with
  | vs _ _ _ cap sz t hn bZ hc hs fh=>
   have e:μ N=μ j:=by rcases PF with ⟨_,h⟩ | h;exact absurd h hn;exact h
   rw [← e];exact .vs _ _ _ cap sz t hn hN hc (by rw [e];exact hs) fh
  | sb=>exact .sb _ _ _
theorem aej {s:bL} {a:Act} {j:Nat} {ty:Ty} {v:RV} {xs:List ty.dn} (hs:SR w F O μ (below s.N) s.st ft a) (hj:aS s.H j=some (.row ty v xs)):
  ∃ aZ bX,HR w F O aZ (below (s.N+1)) (s.st.H.c_ [(s.N,some (.row v.b (ff ty) xs.length (bV v ty xs))),(j,none)]) bX∧Fr w F O μ (below s.N) w F O aZ∧
   ∀ u,VR w F aZ (below (s.N+1)) (dh v.b j xs.length (ff ty)) u→VR w F aZ (below (s.N+1)) (dh v.b s.N xs.length (ff ty)) u:=by
 have hH:s.st.H j=some (.row v.b (ff ty) xs.length (bV v ty xs)):=dx hj;have hjN:j < s.N:=hs.hr.known j _ hH;have eK:plus (below s.N) [s.N]=below (s.N+1):=yb s.N 1;have hKN:¬ below s.N s.N:=by simp [below]
 cases hl:(jz.row v.b (ff ty) xs.length (bV v ty xs)).eQ with
 | true=>
  obtain ⟨o,ho,hB⟩:=hs.hr.du j _ hH hl;have gC:s.st.H.live j:=⟨_,hH,hl⟩;have Na:=hs.hr.self j gC;have hO:=hs.hr.own j gC _ Na;have hp:sq w w (μ j) o:=⟨rfl,rfl,rfl,Nat.le_refl _,hs.hr.lt j hjN,ho,fun _ _ _=>rfl,fun _ _=>rfl⟩;obtain ⟨k1,k2⟩:=D3 (M:=s.N) (L:=[j]) (S:=ft j) hs.hr hp (.inl hO) (fun h=>absurd h hKN) (fun x hx=>.inr ⟨j,.inr (by simp),gC,hx⟩) Na
   (fun id h1 h2 h3 h4=>h3 (by have:=hs.hr.dj id j h1 gC _ h4 Na;simp [this])) hB
  have eO:(fun x=>O x∨x=μ j)=O:=by
   funext x;exact propext ⟨fun h=>by rcases h with h | h;exact h;rw [h];exact hO,.inl⟩
  rw [eO,eK] at k1;rw [eO] at k2;refine ⟨_,_,k1,k2,fun u hu=>WI (by simp [below]) (.inr ?_) hu⟩;rw [gq,Iu (by omega)]
 | false=>
  have hv:v.b=true∧xs.length=0:=by
   cases Z_:v.b with
   | false=>rw [Z_] at hl;simp [jz.eQ] at hl
   | true=>rw [Z_] at hl;simpa [jz.eQ] using hl
  obtain ⟨k1,k2⟩:=wP (N:=s.N) (bB:=ff ty) (e:=bV v ty xs) hs.hr hKN;rw [eK] at k1;refine ⟨_,ft,k1.imp fun id b' ck=>?_,k2,fun u hu=>WI (by simp [below]) (.inl hv) hu⟩;simp only [Hp.c_] at ck ⊢;by_cases e:id=s.N
  ·rw [if_pos e] at ck ⊢;rw [hv.1,hv.2] at ck;exact ⟨b',ck,eg.refl _⟩
  ·rw [if_neg e] at ck ⊢;by_cases e2:id=j
   ·rw [if_pos e2] at ck;cases ck
   ·rw [if_neg e2] at ck;exact ⟨b',ck,eg.refl _⟩
theorem P4 {s:bL} {a:Act} {j:Nat} {ty:Ty} {v:RV} {xs:List ty.dn} (ho:s.ok) (hs:SR w F O μ (below s.N) s.st ft a) (hj:aS s.H j=some (.row ty v xs)) {T8:List (Nat×TA)} {H':List (Nat×aX)}
  (jx:Sub s.H H' s.N) (hN:aS H' s.N=some (.row ty v xs)) (mi:∀ b,aS H' j=some b→b.T5=false) (htm:∀ t,look T8 t=look s.tm t∨(look s.tm t=.ow j∧look T8 t=.ow s.N))
  (hH:∀ id,id≠s.N→id≠j→aS H' id=aS s.H id∨∃ l off,aS s.H id=some (.box l)∧l.getD off .top=.ow j∧aS H' id=some (.box (l.set off (.ow s.N)))):
  bL.ok ⟨s.nt,s.N+1,T8,H'⟩∧s.N≤s.N+1∧s.nt=s.nt∧Sub s.H H' s.N∧∃ aZ bX,SR w F O aZ (below (s.N+1)) (bL.st ⟨s.nt,s.N+1,T8,H'⟩) bX a∧Fr w F O μ (below s.N) w F O aZ:=by
 obtain ⟨aZ,bX,h1,h2,h3⟩:=aej hs hj;have hjN:j < s.N:=hs.hr.known j _ (dx hj);have ej:(TA.ow j).av s.H=dh v.b j xs.length (ff ty):=by simp only [TA.av,hj,fv]
 have eN:(TA.ow s.N).av H'=dh v.b s.N xs.length (ff ty):=by simp only [TA.av,hN,fv]
 have stp:∀ {x u},VR w F μ (below s.N) x u→VR w F aZ (below (s.N+1)) x u:=fun hx=>hx.step hs.hr h2 fun id (h:id < s.N)=>(by show id < s.N+1;omega);refine ⟨⟨fun t=>?_,fun id l hl=>?_⟩,Nat.le_succ _,rfl,jx,aZ,bX,⟨h1.aho fun id b' hb=>?_,hs.nt,fun t=>?_,hs.df⟩,h2⟩
 ·show (look T8 t).wf H' (s.N+1);rcases htm t with e | ⟨_,e⟩
  ·rw [e];exact (jB jx (Nat.le_succ _) _ (ho.tm t)).2
  ·rw [e];simp only [TA.wf];omega
 ·have hl:aS H' id=some l:=hl;by_cases e:id=s.N
  ·rw [e,hN] at hl;cases hl;simp only [aX.refs,hU]
  ·by_cases e2:id=j
   ·subst e2;have:=mi _ hl;cases l with
    | bZ=>simp only [aX.refs,hU]
    | _=>cases this
   ·rcases hH id e e2 with h | ⟨l0,off,q3,q4,q5⟩
    ·rw [h] at hl;exact (g0 jx (Nat.le_succ _) _ (ho.H id _ hl)).2
    ·rw [q5] at hl;cases hl;have hw:=(g0 jx (Nat.le_succ s.N) _ (show hU s.H s.N l0 from ho.H id _ q3)).2;refine cZ.2 fun x hx=>?_;rcases List.mem_or_eq_of_mem_set hx with h | h
     ·exact cZ.1 hw x h
     ·rw [h];simp only [TA.wf];omega
 ·obtain ⟨c,hc,hv,rfl⟩:=ij hb;by_cases e:id=s.N
  ·subst e;rw [hN] at hc;cases hc;exact ⟨_,by simp only [Hp.c_,if_true];rfl,fun h=>h,fun o h=>h⟩
  ·by_cases e2:id=j
   ·subst e2;have:=mi _ hc;rw [this] at hv;cases hv
   ·have eu:(s.st.H.c_ [(s.N,some (.row v.b (ff ty) xs.length (bV v ty xs))),(j,none)]) id=s.st.H id:=by simp only [Hp.c_,if_neg e,if_neg e2]
    rw [eu];rcases hH id e e2 with h | ⟨l0,off,q3,q4,q5⟩
    ·rw [h] at hc;refine ⟨_,dx hc hv,?_⟩;rw [show (bL.H ⟨s.nt,s.N+1,T8,H'⟩)=H' from rfl,p4 jx (ho.H id _ hc)];exact ⟨fun h=>h,fun o h=>h⟩
    ·rw [q5] at hc;cases hc;refine ⟨_,dx q3,fun _=>rfl,fun o ⟨cs,t,m1,m2,m3,m4⟩=>⟨cs,t,m1,m2,?_,fun k hk=>?_⟩⟩
     ·rw [bC] at m3 ⊢;simpa using m3
     ·rw [bC] at hk;have PS:k < l0.length:=by simpa using hk
      have m5:=m4 k (by rw [bC];exact PS);rw [dq _ _ _ PS] at m5;rw [dq _ _ _ hk];show VR w F aZ _ (((l0.set off (.ow s.N)).getD k .top).av H') _;by_cases e3:off=k
      ·subst e3;have e4:(l0.set off (.ow s.N)).getD off .top=.ow s.N:=by simp [List.getD,PS]
       rw [q4,ej] at m5;rw [e4,eN];exact h3 _ m5
      ·have e4:(l0.set off (.ow s.N)).getD k .top=l0.getD k .top:=by simp [List.getD,List.getElem?_set_ne e3]
       rw [e4,(jB jx (Nat.le_refl _) _ (BT (show hU s.H s.N l0 from ho.H id _ q3) k)).1];exact m5
 ·show VR w F _ _ ((look T8 t).av H') _;have hv:=hs.tm t;rcases htm t with e | ⟨e0,e⟩
  ·rw [e,(jB jx (Nat.le_refl _) _ (ho.tm t)).1];exact stp hv
  ·rw [e,eN];have Iw:VR w F μ (below s.N) ((look s.tm t).av s.H) (a.tmps.getD t undef):=hv;rw [e0,ej] at Iw;exact h3 _ (stp Iw)
theorem aau {s:bL} {a:Act} (p:Place) (ho:s.ok) (hs:SR w F O μ (below s.N) s.st ft a):(Cy s p).ok∧s.N≤(Cy s p).N∧(Cy s p).nt=s.nt∧
  Sub s.H (Cy s p).H s.N∧∃ aZ bX,SR w F O aZ (below (Cy s p).N) (Cy s p).st bX a∧Fr w F O μ (below s.N) w F O aZ:=by
 have same:s.ok∧s.N≤s.N∧s.nt=s.nt∧Sub s.H s.H s.N∧∃ aZ bX,SR w F O aZ (below s.N) s.st bX a∧Fr w F O μ (below s.N) w F O aZ:=⟨ho,Nat.le_refl _,rfl,Sub.refl _ _,μ,ft,hs,Fr.refl _ _ _ _ _⟩;have key:∀ (ty:Ty) (v:RV) (T8:List (Nat×TA)) (H':List (Nat×aX)),v.b=true→Sub s.H H' s.N→aS H' s.N=some (.row ty v [])→(∀ t,look T8 t=look s.tm t∨(look s.tm t=.fb∧look T8 t=.ow s.N))→
   (∀ id,id≠s.N→aS H' id=aS s.H id∨∃ l off,aS s.H id=some (.box l)∧l.getD off .top=.fb∧aS H' id=some (.box (l.set off (.ow s.N))))→
   bL.ok ⟨s.nt,s.N+1,T8,H'⟩∧s.N≤s.N+1∧s.nt=s.nt∧Sub s.H H' s.N∧∃ aZ bX,SR w F O aZ (below (s.N+1)) (bL.st ⟨s.nt,s.N+1,T8,H'⟩) bX a∧Fr w F O μ (below s.N) w F O aZ:=by
  intro ty v T8 H' Z_ jx hN htm hH;obtain ⟨h1,h2⟩:=aat (s:=s) (a:=a) ty v hs;have WJ:∀ {w F aZ K' v},VR w F aZ K' .fb v→VR w F aZ K' ((TA.ow s.N).av H') v:=fun {w F aZ K' v} hv=>by
   rw [hv.pr];simp only [TA.av,hN,fv,List.length_nil,Z_,dh];exact .sb _ _ _
  have aek:∀ {aZ K' v},VR w F aZ K' .fb v→VR w F aZ K' ((TA.ow s.N).av H') v:=fun {aZ K' v} hv=>WJ hv;have stp:∀ {x v},VR w F μ (below s.N) x v→VR w F (Hy μ s.N 0) (below (s.N+1)) x v:=fun hx=>hx.step hs.hr h2 fun id (h:id < s.N)=>(by show id < s.N+1;omega);refine ⟨⟨fun t=>?_,fun id l hl=>?_⟩,Nat.le_succ _,rfl,jx,_,ft,⟨h1.imp fun id b' hb=>?_,hs.nt,fun t=>?_,hs.df⟩,h2⟩
  ·show (look T8 t).wf H' (s.N+1);rcases htm t with e | ⟨_,e⟩
   ·rw [e];exact (jB jx (Nat.le_succ _) _ (ho.tm t)).2
   ·rw [e];simp only [TA.wf];omega
  ·have hl:aS H' id=some l:=hl;by_cases e:id=s.N
   ·rw [e,hN] at hl;cases hl;simp only [aX.refs,hU]
   ·rcases hH id e with h | ⟨l0,off,h3,h4,h5⟩
    ·rw [h] at hl;exact (g0 jx (Nat.le_succ _) _ (ho.H id _ hl)).2
    ·rw [h5] at hl;cases hl;have hw:=(g0 jx (Nat.le_succ s.N) _ (show hU s.H s.N l0 from ho.H id _ h3)).2;refine cZ.2 fun x hx=>?_;rcases List.mem_or_eq_of_mem_set hx with h | h
     ·exact cZ.1 hw x h
     ·rw [h];simp only [TA.wf];omega
  ·obtain ⟨c,hc,hv,rfl⟩:=ij hb;by_cases e:id=s.N
   ·subst e;rw [hN] at hc;cases hc;refine ⟨_,by rw [Hp.BL,if_pos rfl],?_⟩;simp only [aX.du,Z_,List.length_nil];exact eg.refl _
   ·rw [Hp.BL,if_neg e];rcases hH id e with h | ⟨l0,off,h3,h4,h5⟩
    ·rw [h] at hc;refine ⟨_,dx hc hv,?_⟩;rw [show (bL.H ⟨s.nt,s.N+1,T8,H'⟩)=H' from rfl,p4 jx (ho.H id _ hc)];exact eg.refl _
    ·rw [h5] at hc;cases hc;refine ⟨_,dx h3,?_⟩;simp only [aX.du];refine SY (by rw [bC,bC];simp) fun k hk=>?_;rw [bC] at hk;have PS:k < l0.length:=by simpa using hk
     rw [dq _ _ _ PS,dq _ _ _ hk];intro w1 F1 Hz K1 v1 Ja;by_cases e2:off=k
     ·subst e2;have e3:(l0.set off (.ow s.N)).getD off .top=.ow s.N:=by simp [List.getD,PS]
      rw [h4] at Ja;simp only [TA.av] at Ja;show VR w1 F1 Hz K1 (((l0.set off (.ow s.N)).getD off .top).av H') v1;rw [e3];exact WJ Ja
     ·have e3:(l0.set off (.ow s.N)).getD k .top=l0.getD k .top:=by simp [List.getD,List.getElem?_set_ne e2]
      show VR w1 F1 Hz K1 (((l0.set off (.ow s.N)).getD k .top).av H') v1;rw [e3,(jB jx (Nat.le_refl _) _ (BT (show hU s.H s.N l0 from ho.H id _ h3) k)).1];exact Ja
  ·show VR w F _ _ ((look T8 t).av H') _;have hv:=hs.tm t;rcases htm t with e | ⟨e0,e⟩
   ·rw [e,(jB jx (Nat.le_refl _) _ (ho.tm t)).1];exact stp hv
   ·rw [e];have Iw:VR w F μ (below s.N) ((look s.tm t).av s.H) (a.tmps.getD t undef):=hv;rw [e0] at Iw;simp only [TA.av] at Iw;exact aek (stp Iw)
 cases p with
 | tm t ty v=>
  simp only [Cy];split
  ·rename_i h0 Z_;refine key ty v _ _ Z_ mZ (by rw [pt,if_pos rfl]) (fun u=>?_) fun id e=>.inl (by rw [pt,if_neg e]);simp only [look];cases e:Nat.beq u t with
   | true=>rw [Nat.eq_of_beq_eq_true e];exact .inr ⟨h0,rfl⟩
   | false=>exact .inl rfl
  ·exact same
 | cell qT off ty v=>
  simp only [Cy];split
  ·rename_i l hl Z_;split
   ·rename_i h0;have oV:qT≠s.N:=fun e=>by
     have:=hs.hr.known qT _ (dx hl);simp only [below] at this;omega
    refine key ty v _ _ Z_ (fun id bZ=>?_) ?_ (fun u=>.inl rfl) fun id e=>?_
    ·simp only [cA,aS];cases e:Nat.beq id qT with
     | true=>rw [Nat.eq_of_beq_eq_true e,hl];rfl
     | false=>simp only [cb (show ¬ id=s.N by omega)]
    ·simp only [cA,aS,cb (show ¬ s.N=qT from fun h=>oV h.symm),Nat.beq_refl]
    ·simp only [cA,aS];cases e2:Nat.beq id qT with
     | true=>rw [Nat.eq_of_beq_eq_true e2];exact .inr ⟨l,off,hl,h0,rfl⟩
     | false=>exact .inl (by simp only [cb e])
   ·exact same
  ·exact same
 | dA qT off=>
  simp only [Cy];split
  ·rename_i l hl;split
   ·rename_i j h0;split
    ·rename_i ty v xs hj;have oV:qT≠s.N:=fun e=>by
      have:=hs.hr.known qT _ (dx hl);simp only [below] at this;omega
     have hjN:j < s.N:=hs.hr.known j _ (dx hj);have H_:qT≠j:=fun e=>by subst e;rw [hl] at hj;cases hj
     refine P4 ho hs hj (fun id bZ=>?_) ?_ (fun b hb=>?_) (fun u=>.inl rfl) fun id e e2=>?_
     ·simp only [cA,aS];cases e:Nat.beq id qT with
      | true=>rw [Nat.eq_of_beq_eq_true e,hl];rfl
      | false=>
       simp only [cb (show ¬ id=s.N by omega)];cases e3:Nat.beq id j with
       | true=>simp only [fv];rw [Nat.eq_of_beq_eq_true e3]
       | false=>rfl
     ·simp only [cA,aS,cb (show ¬ s.N=qT from fun h=>oV h.symm),Nat.beq_refl]
     ·simp only [cA,aS,cb (show ¬ j=qT from fun h=>H_ h.symm),cb (show ¬ j=s.N by omega),Nat.beq_refl,Option.some.injEq] at hb;rw [← hb];rfl
     ·simp only [cA,aS];cases e3:Nat.beq id qT with
      | true=>rw [Nat.eq_of_beq_eq_true e3];exact .inr ⟨l,off,hl,h0,rfl⟩
      | false=>exact .inl (by simp only [cb e,cb e2])
    ·exact same
   ·exact same
  ·exact same
 | aei t=>
  simp only [Cy];split
  ·rename_i j h0;split
   ·rename_i ty v xs hj;have hjN:j < s.N:=hs.hr.known j _ (dx hj);refine P4 ho hs hj (fun id bZ=>?_) ?_ (fun b hb=>?_) (fun u=>?_) fun id e e2=>?_
    ·simp only [cA,aS,cb (show ¬ id=s.N by omega)];cases e3:Nat.beq id j with
     | true=>simp only [fv];rw [Nat.eq_of_beq_eq_true e3]
     | false=>rfl
    ·simp only [cA,aS,Nat.beq_refl]
    ·simp only [cA,aS,cb (show ¬ j=s.N by omega),Nat.beq_refl,Option.some.injEq] at hb;rw [← hb];rfl
    ·simp only [look];cases e:Nat.beq u t with
     | true=>rw [Nat.eq_of_beq_eq_true e];exact .inr ⟨h0,rfl⟩
     | false=>exact .inl rfl
    ·exact .inl (by simp only [cA,aS,cb e,cb e2])
   ·exact same
  ·exact same
theorem I1 {a:Act}:∀ (L:List Place) {s:bL} {μ:Nat→Nat} {ft:Nat→Nat→Prop},s.ok→SR w F O μ (below s.N) s.st ft a→(AW s L).ok∧s.N≤(AW s L).N∧(AW s L).nt=s.nt∧
  Sub s.H (AW s L).H s.N∧∃ aZ bX,SR w F O aZ (below (AW s L).N) (AW s L).st bX a∧Fr w F O μ (below s.N) w F O aZ
 | [],s,μ,ft,ho,hs=>⟨ho,Nat.le_refl _,rfl,Sub.refl _ _,μ,ft,hs,Fr.refl _ _ _ _ _⟩
 | p::r,s,μ,ft,ho,hs=>by
  obtain ⟨h1,h2,h3,h6,Hz,S3,h4,h5⟩:=aau p ho hs;obtain ⟨k1,k2,k3,k6,zl,EJ,k4,k5⟩:=I1 r h1 h4;exact ⟨k1,Nat.le_trans h2 k2,k3.trans h3,(fun id bZ=>(k6 id (Nat.lt_of_lt_of_le bZ h2)).trans (h6 id bZ)),zl,EJ,k4,h5.trans (k5.LH fun id (bZ:id < s.N)=>(show id < (Cy s p).N by omega))⟩
def yj (m0:Nat) (cE:List Bp) (id:Nat):Nat→List sA→List TA→List Place
 | off,.ow j::ps,.fb::as=>match cE[j]? with
  | some (.row ty v)=>.cell id off ty v::yj m0 cE id (off+1) ps as
  | _=>yj m0 cE id (off+1) ps as
 | off,.ow j::ps,.ow i::as=>match Nat.ble m0 j&&Nat.blt i m0 with
  | true=>.dA id off::yj m0 cE id (off+1) ps as
  | false=>yj m0 cE id (off+1) ps as
 | off,.d _::ps,.ow i::as=>match Nat.blt i m0 with
  | true=>.dA id off::yj m0 cE id (off+1) ps as
  | false=>yj m0 cE id (off+1) ps as
 | off,_::ps,_::as=>yj m0 cE id (off+1) ps as
 | _,_,_=>[]
def acQ (m0:Nat) (cE:List Bp) (H:List (Nat×aX)) (j id:Nat):List Place:=match cE[j]?,aS H id with
 | some (.box ps),some (.box l)=>yj m0 cE id 0 ps l
 | _,_=>[]
def O5 (m0:Nat) (cE:List Bp) (s:bL):List (Nat×sA)→List Place
 | []=>[]
 | (t,.ow j)::r=>match look s.tm t with
  | .fb=>match cE[j]? with
   | some (.row ty v)=>.tm t ty v::O5 m0 cE s r
   | _=>O5 m0 cE s r
  | .ow i=>match Nat.ble m0 j&&Nat.blt i m0 with
   | true=>.aei t::O5 m0 cE s r
   | false=>O5 m0 cE s r
  | _=>O5 m0 cE s r
 | (t,.bp j _)::r=>match look s.tm t with
  | .bp id _=>acQ m0 cE s.H j id++O5 m0 cE s r
  | _=>O5 m0 cE s r
 | _::r=>O5 m0 cE s r
def NV (m0:Nat) (cE:List Bp) (s:bL):Nat→List Place
 | 0=>[]
 | m+1=>acQ m0 cE s.H m m++NV m0 cE s m
def aav (f:jC) (m0:Nat) (J:LA f.ey (Option R)) (s:bL):Option R:=match ad5 (AW s (NV m0 f.cE s m0++O5 m0 f.cE s f.YK)) m0 f with
 | some ds=>match oj f.ey ds with
  | some x=>xQ f.ey J x
  | none=>none
 | none=>none
def Cz (f:jC) (m0:Nat) (J:LA f.ey (Option R)) (s:bL):Option R:=aav f m0 J (pw s (sk s.H))
def Ep (f:jC) (nt:Nat) (X:bL→Option R):LA f.ey (Option R):=RS f.ey fun x=>match instF nt f (ew f.ey x) with
 | some s=>X s
 | none=>none
def Vt (ps:List Nat) (nt:Nat) (f:jC) (m0:Nat) (D1 D2:Nat→bL→Ks R→Option R) (ks:Ks R) (ds:List cG) (J:LA f.ey (Option R)):LA f.ey (Option R):=
 Ep f nt fun s'=>D1 s'.N (s'.args ps ds) ⟨fun s1=>D2 s'.N s1 ⟨fun s2=>Cz f m0 J (s'.back s2),fun i s2=>ks.x i (s'.back s2),fun s2=>ks.r (s'.back s2),fun _ _=>none⟩,fun _ _=>none,fun _=>none,fun _ _=>none⟩
def Vu (E:Env) (A:T7) (m0:Nat) (ok:Bool) (ps:List Nat) (D1 D2:Nat→bL→Ks R→Option R) (fr:Option jC) (k:Nat) (s:bL) (ks:Ks R):TA→Option R
 | .fn (.func fi) [] zQ=>match fr,ok&&ps.all (fun t=>t.blt s.nt) with
  | some f,true=>Rz s.H fi zQ (A.it k) fun c xs=>match Nat.beq ps.length c.ey.length with
   | true=>Cz f m0 (HD (fun y=>Vt ps s.nt f m0 D1 D2 ks (ew c.ey y)) (Ep f s.nt ks.n) xs) s
   | false=>none
  | _,_=>none
 | _=>none
def acR (E:Env) (bJ:List CT) (ops:List Oper) (B:Array Nat) (eX:List (Nat×List Nat)) (s:bL) (κ:bL→Option R):Option R:=match NW ops with
 | some _=>match eX with
  | (_,[id])::_=>RA E bJ ops B id s κ
  | _=>none
 | none=>Vq E bJ ops B eX s κ
def den (E:Env) (bJ:Nat→List CT) (A:T7):Nat→Code→Nat→bL→Ks R→Option R
 | m0,.skip,_,s,ks=>ks.n s
 | m0,.region _ ⟨ops⟩ false,k,s,ks=>Eo E (bJ k) ⟨ops⟩ ops s ks.n ks.p
 | m0,.region id ⟨ops⟩ true,k,s,ks=>match afB A.draw id with
  | some (B,eX)=>acR E (bJ k) ops ⟨B⟩ eX (pw s (sk s.H)) ks.n
  | none=>none
 | m0,.seq x y,k,s,ks=>match aca A.join y with
  | some f=>share (Ep f s.nt fun s'=>den E bJ A m0 y k s' ks) fun J=>den E bJ A m0 x k s { ks with n:=Cz f m0 J }
  | none=>den E bJ A m0 x k s { ks with n:=fun s'=>den E bJ A m0 y k s' ks }
 | m0,.cond c x y,k,s,ks=>match s.val c with
  | .d ⟨.bool,b⟩=>cond b (den E bJ A m0 x k s ks) (den E bJ A m0 y k s ks)
  | _=>none
 | m0,.block id c,k,s,ks=>den E bJ A m0 c k s { ks with x:=fun i s'=>match Nat.beq i id with
  | true=>ks.n s'
  | false=>ks.x i s' }
 | m0,.loop c,k,s,ks=>match aca A.loop c with
  | some f=>Cz f m0 (iter k fun k' rec=>Ep f s.nt fun s'=>den E bJ A m0 c k' s' { ks with n:=Cz f m0 rec }) s
  | none=>none
 | m0,.exit id,_,s,ks=>ks.x id s
 | m0,.ret,_,s,ks=>ks.r s
 | m0,.scope c,k,s,ks=>den E bJ A m0 c k s ks
 | m0,.label _,_,s,ks=>ks.n s
 | m0,.rangeFunc g ⟨ps⟩ x y,k,s,ks=>Vu E A m0 (tP x&&tP y) ps (fun m s ks=>den E bJ A m x k s ks) (fun m s ks=>den E bJ A m y k s ks) (aca A.loop x) k s ks (s.val g)
 | _,_,_,_,_=>none
def Ks.at (ks:Ks R) (z:R) (e:Exit) (s':bL) (w':World) (F':Nat→Prop) (aZ:Nat→Nat):Prop:=match e with
 | .normal=>ks.n s'=some z
 | .exit i=>ks.x i s'=some z
 | .ret=>ks.r s'=some z
 | .panic l=>∃ u v,l=[{ v:=u,recovered:=false }]∧ks.p v s'=some z∧v.wf s'.H s'.N∧VR w' F' aZ (below s'.N) (v.av s'.H) u
 | _=>False
def Er (ks:Ks R) (z:R) (w:World) (F O:Nat→Prop) (μ:Nat→Nat) (m0:Nat) (nt:N0):Exit→Act→World→Prop:=fun e a' w'=>
 ∃ s' F' O' aZ bX,tL w F O μ m0 nt s' a' w' F' O' aZ bX∧ks.at z e s' w' F' aZ
theorem Er.trans {ks:Ks R} {z:R} {m0:Nat} {nt:N0} (hf:Fr w F O μ (below m0) w' F' O' aZ) (e:Exit) (a:Act) (ss:World) (h:Er ks z w' F' O' aZ m0 nt e a ss):Er ks z w F O μ m0 nt e a ss:=by
 obtain ⟨s',zT,uo,jE,bX,h1,h2⟩:=h;exact ⟨s',zT,uo,jE,bX,h1.trans hf,h2⟩
theorem aaw {f:jC} {m0:Nat} {J:LA f.ey (Option R)} {s:bL} {z:R} {a:Act} (h:aav f m0 J s=some z) (ho:s.ok) (hm:m0≤s.N) {n0:N0} (hn:LX n0 s a) (hs:SR w F O μ (below s.N) s.st ft a):
  ∃ x s',xQ f.ey J x=some z∧instF s.nt f (ew f.ey x)=some s'∧∃ F' O' aZ bX,tL w F O μ m0 n0 s' a w F' O' aZ bX:=by
 unfold aav at h;split at h
 ·rename_i ds sy;split at h
  ·rename_i x hx;obtain ⟨v1,v2,v3,_,Hz,S3,v4,v5⟩:=I1 (NV m0 f.cE s m0++O5 m0 f.cE s f.YK) ho hs;obtain ⟨s',h1,h2,h3,h4,h5⟩:=aaa sy (Nat.le_trans hm v2);obtain ⟨F',O',aZ,bX,k1,k2⟩:=h5 v4;exact ⟨x,s',h,by rw [lO hx,← v3];exact h1,F',O',aZ,bX,h2,h4,hn.to (h3.trans v3),k1,(v5.LH fun id (bZ:id < m0)=>(show id < s.N by omega)).trans k2⟩
  ·cases h
 ·cases h
theorem AX {f:jC} {m0:Nat} {J:LA f.ey (Option R)} {s:bL} {z:R} {a:Act} (h:Cz f m0 J s=some z) (ho:s.ok) (hm:m0≤s.N) {n0:N0} (hn:LX n0 s a) (hs:SR w F O μ (below s.N) s.st ft a):
  ∃ x s',xQ f.ey J x=some z∧instF s.nt f (ew f.ey x)=some s'∧∃ F' O' aZ bX,tL w F O μ m0 n0 s' a w F' O' aZ bX:=by
 obtain ⟨y1,y2,y3,_,S3,y4⟩:=Eh (sk s.H) ho hs;unfold Cz at h;generalize pw s (sk s.H)=s0 at h y1 y2 y3 y4;rw [← y2] at y4;have:=aaw h y1 (by rw [y2];exact hm) (hn.to y3) y4;rw [y3] at this;exact this
theorem AY {f:jC} {nt:Nat} {X:bL→Option R} {x:xP f.ey} {s':bL} (h:instF nt f (ew f.ey x)=some s'):xQ f.ey (Ep f nt X) x=X s':=by
 unfold Ep;rw [qJ,h]
def zo (r:Option Nat) (P:Program) (c:Code) (Q:Exit→Act→World→Prop) (a:Act) (w:World):Prop:=
 ∀ (b:Frame) (k:List Item) (cs:List Frame),b.roundOf=r→∃ e a' w',Q e a' w'∧ArrivesIn (Machine.fenced P (Wr r)) P (lone (b.atR a (.code c::.inLoop c::k)) cs w) b k cs e a' w'
theorem zp {r:Option Nat} {m:Machine}:m.fenced P (Wr r):=fenced_wide P m
theorem zo.wp {r:Option Nat} {c:Code} {Q:Exit→Act→World→Prop} {a:Act} (h:zo r P c Q a w):(Code.loop c).wpIn (Wr r) 0 P Q a w:=by
 intro b k cs hb _ _;obtain ⟨e,a',w',hq,Ht⟩:=h b k cs hb;exact ⟨e,a',w',hq,.of_steps (.one zp stepR_loop) Ht⟩
theorem zo.round {r:Option Nat} {c:Code} {Q:Exit→Act→World→Prop} {a:Act} (h:c.wpIn (Wr r) 0 P (Exit.then (zo r P c Q) Q) a w):zo r P c Q a w:=by
 intro b k cs hb;obtain ⟨e,NX,NY,hq,Ht⟩:=h b (.inLoop c::k) cs hb trivial (room_wide _);cases e with
 | normal=>
  obtain ⟨ahp,ahq,ahr,afC,acb⟩:=hq b k cs hb;exact ⟨ahp,ahq,ahr,afC,.of_steps (StepsIn.trans Ht (.one zp stepR_inLoop)) acb⟩
 | exit id=>exact ⟨_,NX,NY,hq,.pass (x:=.inLoop c) rfl (fun _ _=>.inl (by simp)) Ht⟩
 | goto l=>exact ⟨_,NX,NY,hq,.pass (x:=.inLoop c) rfl (fun _ _=>.inl (by simp)) Ht⟩
 | ret=>exact ⟨_,NX,NY,hq,.pass (x:=.inLoop c) rfl (fun _ _=>.inl (by simp)) Ht⟩
 | panic ch=>exact ⟨_,NX,NY,hq,.pass (x:=.inLoop c) rfl (fun _ _=>.inl (by simp)) Ht⟩
 | outgrown=>exact ⟨_,NX,NY,hq,.pass (x:=.inLoop c) rfl (fun _ _=>.inl (by simp)) Ht⟩
theorem zo.mono {r:Option Nat} {c:Code} {Q Q':Exit→Act→World→Prop} {a:Act} (hq:∀ e a w,Q e a w→Q' e a w) (h:zo r P c Q a w):zo r P c Q' a w:=fun b k cs hb=>
 let ⟨e,a',w',q,r⟩:=h b k cs hb;⟨e,a',w',hq _ _ _ q,r⟩
theorem vg {b:Frame} {a:Act} {k:List Item} {cs:List Frame} {c:Code}:step P (lone (b.atR a (.code (.scope c)::k)) cs w)=.next (lone (b.atR a (.code c::.inScope c::k)) cs w):=
 step_lone_go (by simp [stepG,stepG.exec,Frame.atR])
theorem O7 {b:Frame} {a:Act} {k:List Item} {cs:List Frame} {c:Code}:step P (lone (b.atR a (.inScope c::k)) cs w)=.next (lone (b.atR a k) cs w):=
 step_lone_go (by simp [stepG,stepG.exec,Frame.atR])
theorem FK {r:Option Nat} {c:Code} {Q:Exit→Act→World→Prop} {a:Act} (h:c.wpIn (Wr r) 0 P (Exit.noGoto Q) a w):(Code.scope c).wpIn (Wr r) 0 P Q a w:=by
 intro b k cs hb h1 h2;obtain ⟨e,NX,NY,hq,Ht⟩:=h b (.inScope c::k) cs hb h1 h2;have e1:∀ i,exitTo i (.inScope c::k)=exitTo i k:=fun i=>by simp [exitTo]
 cases e with
 | normal=>exact ⟨.normal,NX,NY,hq,.head zp vg (StepsIn.trans Ht (.one zp O7))⟩
 | exit id=>exact ⟨.exit id,NX,NY,hq,.of_steps (.one zp vg) ⟨fun k' hk=>Ht.1 k' (by rw [e1];exact hk),fun hr hk=>Ht.2 hr (by rw [e1];exact hk)⟩⟩
 | goto l=>exact hq.elim
 | ret=>exact ⟨_,NX,NY,hq,.of_steps (.one zp vg) Ht⟩
 | panic ch=>exact ⟨_,NX,NY,hq,.of_steps (.one zp vg) Ht⟩
 | outgrown=>exact ⟨_,NX,NY,hq,.of_steps (.one zp vg) Ht⟩
def aax (P:Program) (z:R) (D:Nat→Nat→bL→Ks R→Option R) (c:Code) (K0:Nat):Prop:=
 ∀ (m0:Nat) (n0:N0) (ro:Option Nat) (k:Nat) (s:bL) (ks:Ks R),D m0 k s ks=some z→((ro=none∧n0.nf=false)∨tP c=true)→k≤K0→s.ok→m0≤s.N→
  ∀ {w:World} {F O:Nat→Prop} {μ:Nat→Nat} {ft:Nat→Nat→Prop} {a:Act},n0.lo≤w.heap.size→LX n0 s a→SR w F O μ (below s.N) s.st ft a→c.wpIn (Wr ro) 0 P (Er ks z w F O μ m0 n0) a w
theorem RB (w:World) (o1 o2:Obj):Gw w ((w.alloc o1).alloc o2) where
 os:=rfl
 tape:=rfl
 output:=rfl
 size:=by simp;omega
 same:=fun b hb=>by rw [Below.heap_alloc _ _ _ (by simp;omega),Below.heap_alloc _ _ _ hb]
theorem HR.more {H:Hp} (h:HR w F O μ K H ft) (hF:∀ b,F b→F' b) (hw:∀ b,F' b→b < w.heap.size) (hO:∀ b,O b→¬ F' b):HR w F' O μ K H ft where
 lt:=h.lt
 known:=h.known
 du:=fun id b hb hl=>by
  obtain ⟨o,ho,hB⟩:=h.du id b hb hl;exact ⟨o,ho,hB.mono (fun _ _=>rfl) hF (fun _ _=>rfl) (fun _ h=>h) (fun _ _=>rfl) fun _ _ _=>rfl⟩
 self:=h.self
 own:=h.own
 dj:=h.dj
 yl:=hO
 wf:=hw
 qS:=h.qS
 pos:=h.pos.mono (Nat.le_refl _) hF fun _ _=>rfl
theorem aay {E:Env} {A:T7} {z:R} {K0 m0:Nat} {n0:N0} {D1 D2:Nat→Nat→bL→Ks R→Option R} {x y:Code} {ps:List Nat} {g:Operand} {k:Nat} {s:bL} {ks:Ks R} {fr:Option jC} {a:Act} (hI:∀ k,k≤K0→∀ c,c∈A.it k→Gu E.P c)
  (ih1:aax E.P z D1 x K0) (ih2:aax E.P z D2 y K0) (h:Vu E A m0 (tP x&&tP y) ps (fun m s ks=>D1 m k s ks) (fun m s ks=>D2 m k s ks) fr k s ks (s.val g)=some z)
  (wu:k≤K0) (YH:n0.nf=false) (ho:s.ok) (hm:m0≤s.N) (fh:n0.lo≤w.heap.size) (hn:LX n0 s a) (hs:SR w F O μ (below s.N) s.st ft a):
  (Code.rangeFunc g ⟨ps⟩ x y).wpIn (Wr none) 0 E.P (Er ks z w F O μ m0 n0) a w:=by
 unfold Vu at h;split at h
 ·rename_i fi zQ hg;split at h
  ·rename_i f u9;simp only [Bool.and_eq_true] at u9;obtain ⟨⟨hx,hy⟩,hps⟩:=u9;obtain ⟨c,ds,xv,xs,hc,hf,he,hcx,hL,h0⟩:=K5 h;clear h;split at h0
   ·rename_i hlen;have hlen:=Nat.eq_of_beq_eq_true hlen;subst hf;obtain ⟨d,s',h1,h2,F1,O1,Hz,S3,hh⟩:=AX h0 ho hm hn hs;obtain ⟨Cx,afD⟩:=hI k wu c hc;have hgv:=bY hg hs;simp only [TA.av,di] at hgv;obtain ⟨v0,us,Ea,YL,Q4⟩:=hgv.G7;have YL:=YL.gY;subst YL;obtain ⟨cas,ca1,ca2⟩:=NZ he
    let ael:Loop:={ state:=.ready,pending:=none,fn:=0,tmps:=a.tmps,params:=⟨ps⟩,assign:=x,body:=y,defers:=w.heap.size }
    let aM:Act:={ a with defers:=[mB w.heap.size]++a.defers }
    refine wpIn_rangeFunc fun fn _=>?_
    let B4:Loop:={ ael with fn:=fn }
    let W1:World:=(w.alloc (.deferred (some []))).alloc (.loop B4)
    have gw:Gw w W1:=RB w _ _;have hW1:W1.heap.size=w.heap.size+2:=by simp [W1]
    have ahs:W1.heap[w.heap.size+1]?=some (.loop B4):=by
     have:=World.alloc_heap_new (w.alloc (.deferred (some []))) (.loop B4);simpa [W1] using this
    have afE:W1.heap[w.heap.size]?=some (.deferred (some [])):=by
     have e:W1.heap[w.heap.size]?=(w.alloc (.deferred (some []))).heap[w.heap.size]?:=Below.heap_alloc _ _ _ (by simp);rw [e];exact World.alloc_heap_new w _
    have RN:qj W1 F1 O1 (SI aM.defers):=by
     show qj W1 F1 O1 (mB w.heap.size::SI a.defers);refine ⟨List.nodup_cons.2 ⟨fun NI=>?_,hh.sr.df.nd⟩,fun d' Nf=>?_⟩
     ·obtain ⟨b,e1,_,_,e4⟩:=hh.sr.df.all _ NI;have e:w.heap.size=b:=by simpa [mB] using e1
      have:=(Array.getElem?_eq_some_iff.1 e4).1;omega
     ·rcases List.mem_cons.1 Nf with e | e
      ·exact ⟨w.heap.size,e,fun h=>by have:=hh.sr.hr.qS _ h;omega,fun h=>by have:=hh.sr.hr.wf _ h;omega,afE⟩
      ·obtain ⟨b,e1,e2,e3,e4⟩:=hh.sr.df.all _ e;exact ⟨b,e1,e2,e3,by rw [gw.same b (Array.getElem?_eq_some_iff.1 e4).1];exact e4⟩
    have hmk:∀ b,mB b∈aM.defers→b < W1.heap.size:=fun b hb=>by
     obtain ⟨b',e1,_,_,e4⟩:=RN.all _ (V2.2 hb);have e:b=b':=by simpa [mB] using e1
     rw [e];exact (Array.getElem?_eq_some_iff.1 e4).1
    have aht:∀ {s1:bL},LX n0 s1 a→LX n0 s1 aM:=fun h=>⟨h.1,fun b hb=>by
     rcases List.mem_cons.1 hb with e | e
     ·have e:b=w.heap.size:=by simpa [mB] using e
      exact ⟨by omega,YH⟩
     ·exact h.2.1 b e,h.2.2⟩
    have hh1:tL w F O μ m0 n0 s' aM W1 F1 O1 Hz S3:=⟨hh.ok,hh.le,aht hh.nt,⟨hh.sr.hr.gw gw,hh.sr.nt,fun t=>(hh.sr.tm t).step hh.sr.hr gw.fr fun _ h=>h,RN⟩,hh.fr.trans gw.fr⟩
    let L:Nat:=w.heap.size+1
    let body:xP c.ey→LA f.ey (Option R)→LA f.ey (Option R):=fun q=>Vt ps s.nt f m0 (fun m s ks=>D1 m k s ks) (fun m s ks=>D2 m k s ks) ks (ew c.ey q)
    let done:LA f.ey (Option R):=Ep f s.nt ks.n
    let J:List (xP c.ey)→World→(Nat→Prop)→(Nat→Prop)→Prop:=fun ys w' Fi Oi=>∃ (Fo Oo:Nat→Prop) (YN:Nat→Nat) (fto:Nat→Nat→Prop) (st:LoopState) (p:Option Code) (Hu:bL),
     w'.heap[L]?=some (.loop { B4 with state:=st,pending:=p })∧Kh w' Fo Oo L∧(∀ b,Fi b→Fo b)∧(∀ b,Oi b→W1.heap.size≤b∧Kh w' Fo Oo b)∧tL w F O μ m0 n0 Hu aM w' Fo Oo YN fto∧
     ((st=.ready∧p=none∧∃ d,xQ f.ey (HD body done ys) d=some z∧instF s.nt f (ew f.ey d)=some Hu)∨
      (ys=[]∧st=.done∧∃ cj e,p=some cj∧((cj=.ret∧e=Exit.ret)∨∃ i,cj=.exit i∧e=Exit.exit i)∧(∀ (w':World) (F':Nat→Prop) (aZ:Nat→Nat),ks.at z e Hu w' F' aZ)))
    have hJ0:J xs W1 F1 (fun _=>False):=
     ⟨F1,O1,Hz,S3,.ready,none,s',ahs,⟨by rw [hW1];omega,fun h=>by have:=hh.sr.hr.wf _ h;omega,fun h=>by have:=hh.sr.hr.qS _ h;omega⟩,fun _ h=>h,fun _ h=>h.elim,hh1,.inl ⟨rfl,rfl,d,h1,h2⟩⟩
    have afF:Yj J:=by
     rintro ys w1 w2 Fi Oi Fi' Oi' μi ah4 Ki ⟨Fo,Oo,YN,fto,st,p,Hu,j1,j2,j3,j4,j5,j6⟩ wf1 wf2 ym
     have hr:=j5.sr.hr;have hL1:W1.heap.size≤w1.heap.size:=by have:=j2.1;rw [hW1];show w.heap.size+2≤_;have:w.heap.size+1 < w1.heap.size:=this;omega
     have noi:∀ b,Fo b∨Oo b→¬ Oi b:=fun b hb hi=>hb.elim (j4 b hi).2.2.1 (j4 b hi).2.2.2;have lt1:∀ b,Fo b∨Oo b→b < w1.heap.size:=fun b hb=>hb.elim (hr.wf b) (hr.qS b);have kp:Kp w1 w2 Fo Oo:=⟨ym.os,ym.tape,ym.output,ym.size,fun b hb=>ym.same b (lt1 b hb) (noi b hb),ym.shape⟩;have hLi:¬ Oi L:=fun h=>by have:=(j4 L h).1;rw [hW1] at this;have:w.heap.size+2≤w.heap.size+1:=this;omega
     have fo':∀ b,(Fo b∨Fi' b)→Fo b∨w1.heap.size≤b∨Oi b:=fun b hb=>hb.elim .inl fun h=>(ym.G6 b h).elim (fun h=>.inl (j3 b h)) .inr;have hOo:∀ b,Oo b→¬ (Fo b∨Fi' b):=fun b hb h=>by
      rcases fo' b h with h | h | h
      ·exact hr.yl b hb h
      ·have:=hr.qS b hb;omega
      ·exact noi b (.inr hb) h
     have hwf:∀ b,(Fo b∨Fi' b)→b < w2.heap.size:=fun b hb=>hb.elim (fun h=>Nat.lt_of_lt_of_le (hr.wf b h) ym.size) (wf2.wf b);have ZL:HR w2 (fun b=>Fo b∨Fi' b) Oo YN (below Hu.N) Hu.st.H fto:=(hr.kp kp).more (fun b h=>.inl h) hwf hOo;refine ⟨fun b=>Fo b∨Fi' b,Oo,YN,fto,st,p,Hu,by rw [ym.same L j2.1 hLi];exact j1,⟨Nat.lt_of_lt_of_le j2.1 ym.size,fun h=>?_,j2.2.2⟩,fun b h=>.inr h,fun b hb=>?_,⟨j5.ok,j5.le,j5.nt,⟨ZL,j5.sr.nt,fun t=>?_,?_⟩,?_⟩,j6⟩
     ·rcases fo' L h with h | h | h
      ·exact j2.2.1 h
      ·have:=j2.1;omega
      ·exact hLi h
     ·have Ue:=wf2.qS b hb;rcases ym.D0 b hb with h | h
      ·obtain ⟨m1,m2,m3,m4⟩:=j4 b h;exact ⟨m1,Ue,fun h=>h.elim m3 (wf2.yl b hb),m4⟩
      ·exact ⟨Nat.le_trans hL1 h,Ue,fun h'=>h'.elim (fun h'=>by have:=hr.wf b h';omega) (wf2.yl b hb),fun h'=>by have:=hr.qS b h';omega⟩
     ·exact ((j5.sr.tm t).kp hr kp).mono (fun _ _=>rfl) (fun _ h=>.inl h) (fun _ _=>rfl) (fun _ h=>h) fun _ _=>rfl
     ·refine ⟨j5.sr.df.nd,fun d' Nf=>?_⟩;obtain ⟨b,e1,e2,e3,e4⟩:=j5.sr.df.all d' Nf;have VJ:b < w1.heap.size:=(Array.getElem?_eq_some_iff.1 e4).1;have hbi:¬ Oi b:=fun h=>by have:=(j4 b h).1;have:=hmk b (V2.1 (e1▸Nf));omega
      refine ⟨b,e1,e2,fun h=>?_,by rw [ym.same b VJ hbi];exact e4⟩;rcases fo' b h with h | h | h
      ·exact e3 h
      ·omega
      ·exact hbi h
     ·have dY:w.heap.size≤w1.heap.size:=by have:=hW1;omega
      refine { os:=ym.os.trans j5.fr.os,tape:=ym.tape.trans j5.fr.tape,output:=ym.output.trans j5.fr.output,size:=Nat.le_trans j5.fr.size ym.size,mu:=j5.fr.mu,zK:=fun b h=>.inl (j5.fr.zK b h),shape:=fun b hb=>(ym.shape b (by omega)).trans (j5.fr.shape b hb),same:=fun b hb hn=>(ym.same b (by omega) fun h=>by have:=(j4 b h).1;omega).trans (j5.fr.same b hb hn),D0:=j5.fr.D0,G6:=fun b hb=>?_ };rcases fo' b hb with h | h | h
      ·exact j5.fr.G6 b h
      ·exact .inr (.inl (by omega))
      ·exact .inr (.inl (by have:=(j4 b h).1;omega))
    have Vv:N3 E.P L c.ey J:=by
     rintro q r w1 Fi Oi μi vs ⟨Fo,Oo,YN,fto,st,p,Hu,j1,j2,j3,j4,j5,j6⟩ wf1 wJ
     rcases j6 with ⟨rfl,rfl,d,d1,d2⟩ | ⟨aed,_⟩
     case inr=>cases aed
     have hvl:vs.length=ps.length:=by rw [← wJ.1,List.length_map,Gd,hlen]
     refine ⟨fn,_,x,y,run_yield j1 (by simp [B4,ael,hvl]),?_⟩;simp only [B4,ael];rw [acd];have hr:=j5.sr.hr;have hsN:Hu.nt=s.nt:=j5.nt.1.trans hn.1.symm;have x7:SR w1 Fo Oo YN (below (Hu.args ps (ew c.ey q)).N) (Hu.args ps (ew c.ey q)).st fto { tmps:=(ps.zip vs).foldl (fun tmps (t,v)=>tmps.setIfInBounds t v) a.tmps,defers:=[] }:=by
      refine ⟨hr,?_,fun t=>?_,qj.nil⟩
      ·show ((ps.zip vs).foldl (fun tmps (t,v)=>tmps.setIfInBounds t v) a.tmps).size=Hu.nt;rw [N4];exact j5.sr.nt
      ·refine WK (nt:=Hu.nt) (vs:=vs) ⟨by simpa using wJ.1,fun i hi=>?_⟩ j5.sr.nt (by rw [hsN];exact hps) j5.sr.tm t;exact ((wJ.2 i hi).mono (fun _ _=>rfl) j3 (fun _ h=>h.elim) (fun _ h=>h.elim) fun _ h=>h.elim:VR w1 Fo YN _ _ _)
     have aem:(Hu.args ps (ew c.ey q)).ok:=⟨RC j5.ok.tm ps,j5.ok.H⟩;have hd:xQ f.ey (body q (HD body done r)) d=some z:=d1;simp only [body,Vt] at hd;rw [AY d2] at hd;have hL1:w.heap.size≤L:=by show w.heap.size≤w.heap.size+1;omega
     refine roundIn_of_wpIn trivial (Code.wpIn_mono ?_ (ih1 Hu.N ⟨Hu.nt,0,false,[]⟩ (some L) k _ _ hd (.inr hx) wu aem (Nat.le_refl _) (Nat.zero_le _) ⟨rfl,fun _ _=>⟨Nat.zero_le _,rfl⟩,rfl⟩ x7))
     rintro e a1 w2 ⟨s1,F2,O2,zl,EJ,k2,hk⟩
     cases e with
     | normal=>
      simp only [Ks.at] at hk;have l2:=j2.step k2.fr;have acS:w2.heap[L]?=some (.loop { B4 with state:=.ready,pending:=none }):=by rw [j2.same k2.fr];exact j1
      obtain ⟨ra,afG⟩:=ET (r':={ B4 with state:=.busy,pending:=none }) acS;refine ⟨_,run_beginRound acS rfl,?_⟩;have kp3:=ra.kp l2.2.1 l2.2.2;have Vw:SR (w2.putObj L (.loop { B4 with state:=.busy,pending:=none })) F2 O2 zl (below s1.N) s1.st EJ a1:=⟨k2.sr.hr.kp kp3,k2.sr.nt,fun t=>(k2.sr.tm t).kp k2.sr.hr kp3,ra.df k2.sr.df⟩;have l3:=l2.zP ra;refine Code.wpIn_mono ?_ (ih2 Hu.N ⟨Hu.nt,0,false,[]⟩ (some L) k s1 _ hk (.inr hy) wu k2.ok k2.le (Nat.zero_le _) k2.nt Vw)
      rintro e a2 w4 ⟨s2,F4,O4,μ4,ft4,k4,hk4⟩
      have l4:=l3.step k4.fr;have acT:w4.heap[L]?=some (.loop { B4 with state:=.busy,pending:=none }):=by rw [l3.same k4.fr];exact afG
      have fin:∀ (jump:Option Code) (r':Loop),r'={ B4 with state:=(if jump.isNone then .ready else .done),pending:=jump }→∃ w5,(Instr.endRound L jump).run E.P w4=.ok (.bool jump.isNone) w5∧w5.heap[L]?=some (.loop r')∧Kp w1 w5 Fi Oi∧Kh w5 F4 O4 L∧(∀ b,Fi b→F4 b)∧
        (∀ b,Oi b→W1.heap.size≤b∧Kh w5 F4 O4 b)∧(Hu.back s2).ok∧tL w F O μ m0 n0 (Hu.back s2) aM w5 F4 O4 μ4 ft4:=by
       rintro jump r' rfl
       obtain ⟨rb,afH⟩:=ET (r':={ B4 with state:=(if jump.isNone then .ready else .done),pending:=jump }) acT;have l5:=l4.zP rb;have kp5:=rb.kp l4.2.1 l4.2.2;have vst:∀ {xx vv},VR w1 Fo YN (below Hu.N) xx vv→VR (w4.putObj L (.loop { B4 with state:=(if jump.isNone then .ready else .done),pending:=jump })) F4 μ4 (below s2.N) xx vv:=fun {xx vv} hv=>by
        have v2:=hv.step hr k2.fr fun id (h:id < Hu.N)=>(Nat.lt_of_lt_of_le h k2.le:id < s1.N);have v2':VR w2 F2 zl (below Hu.N) xx vv:=hv.step hr k2.fr fun _ h=>h;have v3:=v2'.mono (w':=w2.putObj L (.loop { B4 with state:=.busy,pending:=none })) (F':=F2) (aZ:=zl) (fun b hb=>kp3.Ln b (.inl hb)) (fun _ h=>h) (fun _ _=>rfl) (fun _ h=>h) fun id bZ=>kp3.shape _ (k2.sr.hr.lt id (Nat.lt_of_lt_of_le bZ k2.le));have v4:=v3.mono (w':=w4) (F':=F4) (aZ:=μ4) (K':=below s2.N) (fun b hb=>k4.fr.frozen Vw.hr b hb) k4.fr.zK (fun id bZ=>k4.fr.mu id bZ) (fun id (h:id < Hu.N)=>Nat.lt_of_lt_of_le h k4.le) fun id bZ=>k4.fr.shape _ (Vw.hr.lt id (Nat.lt_of_lt_of_le bZ k2.le));exact v4.kp k4.sr.hr kp5
       have dfr:qj w1 Fo Oo (SI aM.defers):=j5.sr.df;have df5:=rb.df ((ra.df (dfr.step k2.fr)).step k4.fr);have ahu:SR (w4.putObj L (.loop { B4 with state:=(if jump.isNone then .ready else .done),pending:=jump })) F4 O4 μ4 (below s2.N) s2.st ft4 a2:=⟨k4.sr.hr.kp kp5,k4.sr.nt,fun t=>(k4.sr.tm t).kp k4.sr.hr kp5,rb.df k4.sr.df⟩;obtain ⟨bk1,bk2⟩:=ace (a:=aM) j5.ok k4.ok j5.sr ahu vst df5;have LH:∀ id,id < m0→id < Hu.N:=fun id h=>Nat.lt_of_lt_of_le h j5.le;have ahv:∀ b,Oi b→Kh w4 F4 O4 b:=fun b hb=>(((j4 b hb).2.step k2.fr).zP ra).step k4.fr;have ne:∀ b,Fi b∨Oi b→b≠L:=fun b hb e=>by
        subst e;exact hb.elim (fun h=>j2.2.1 (j3 _ h)) fun h=>by
         have h1:=(j4 _ h).1;rw [hW1] at h1;have:w.heap.size+2≤w.heap.size+1:=h1;omega
       refine ⟨_,run_endRound jump acT,afH,?_,l5,fun b hb=>k4.fr.zK b (k2.fr.zK b (j3 b hb)),fun b hb=>⟨(j4 b hb).1,(ahv b hb).zP rb⟩,bk1,⟨bk1,Nat.le_trans j5.le k4.le,⟨j5.nt.1,j5.nt.2⟩,bk2,?_⟩⟩
       ·have lt1:∀ b,Fi b∨Oi b→b < w1.heap.size:=fun b hb=>hb.elim (wf1.wf b) (wf1.qS b);have afI:∀ b,Fi b∨Oi b→w2.heap[b]?=w1.heap[b]?:=fun b hb=>hb.elim (fun h=>k2.fr.frozen hr b (j3 b h)) fun h=>(j4 b h).2.same k2.fr;refine ⟨rb.os.trans (k4.fr.os.trans (ra.os.trans k2.fr.os)),rb.tape.trans (k4.fr.tape.trans (ra.tape.trans k2.fr.tape)),rb.output.trans (k4.fr.output.trans (ra.output.trans k2.fr.output)),?_,fun b hb=>?_,fun b hb=>?_⟩
        ·rw [rb.size];exact Nat.le_trans k2.fr.size (Nat.le_trans (Nat.le_of_eq ra.size.symm) k4.fr.size)
        ·rw [rb.same b (ne b hb)];have e4:w4.heap[b]?=(w2.putObj L (.loop { B4 with state:=.busy,pending:=none })).heap[b]?:=hb.elim (fun h=>k4.fr.frozen Vw.hr b (k2.fr.zK b (j3 b h))) fun h=>(((j4 b h).2.step k2.fr).zP ra).same k4.fr;rw [e4,ra.same b (ne b hb),afI b hb]
        ·rw [rb.shape b];have hb3:b < (w2.putObj L (.loop { B4 with state:=.busy,pending:=none })).heap.size:=by rw [ra.size];exact Nat.lt_of_lt_of_le hb k2.fr.size
         rw [k4.fr.shape b hb3,ra.shape b,k2.fr.shape b hb]
       ·exact ((((j5.fr.trans (k2.fr.LH LH)).zP ra hL1).trans (k4.fr.LH LH)).zP rb hL1)
      cases e with
      | normal=>
       simp only [Ks.at] at hk4;obtain ⟨w5,e1,e2,e3,e4,e5,e6,e7,e8⟩:=fin none _ rfl;refine ⟨_,w5,e1,true,rfl,e3,?_⟩;obtain ⟨d',s3,g1,g2,F6,O6,μ6,ft6,g3⟩:=AX hk4 e7 e8.le e8.nt e8.sr;refine ⟨F6,O6,μ6,ft6,.ready,none,s3,by simpa using e2,e4.step g3.fr,fun b hb=>g3.fr.zK b (e5 b hb),fun b hb=>⟨(e6 b hb).1,(e6 b hb).2.step g3.fr⟩,⟨g3.ok,g3.le,g3.nt,g3.sr,e8.fr.trans g3.fr⟩,.inl ⟨rfl,rfl,d',g1,?_⟩⟩;rw [← hsN];exact g2
      | ret=>
       simp only [Ks.at] at hk4;obtain ⟨w5,e1,e2,e3,e4,e5,e6,e7,e8⟩:=fin (some .ret) _ rfl;exact ⟨_,w5,e1,false,rfl,e3,F4,O4,μ4,ft4,.done,some .ret,Hu.back s2,by simpa using e2,e4,e5,e6,e8,.inr ⟨rfl,rfl,.ret,.ret,rfl,.inl ⟨rfl,rfl⟩,fun _ _ _=>hk4⟩⟩
      | exit i=>
       simp only [Ks.at] at hk4;obtain ⟨w5,e1,e2,e3,e4,e5,e6,e7,e8⟩:=fin (some (.exit i)) _ rfl;exact ⟨_,w5,e1,false,rfl,e3,F4,O4,μ4,ft4,.done,some (.exit i),Hu.back s2,by simpa using e2,e4,e5,e6,e8,.inr ⟨rfl,rfl,.exit i,.exit i,rfl,.inr ⟨i,rfl,rfl⟩,fun _ _ _=>hk4⟩⟩
      | goto i=>exact hk4.elim
      | panic l=>obtain ⟨_,_,_,h,_⟩:=hk4;cases h
      | outgrown=>exact hk4.elim
     | ret=>cases hk
     | exit i=>cases hk
     | goto i=>exact hk.elim
     | panic l=>obtain ⟨_,_,_,h,_⟩:=hk;cases h
     | outgrown=>exact hk.elim
    have kT:=afD xv xs hL cas (by rw [lO hcx];exact ca1) W1 F1 μ us ?_ hh1.sr.hr.wf hh1.sr.hr.pos L J afF Vv hJ0
    ·refine ⟨L,[mB w.heap.size],W1,⟨.fn (.func c.f) ⟨us⟩,#[]++#[.func (.yield L) #[] #[]]⟩,W1,c.f,⟨.func (.yield L) ⟨[]⟩ ⟨[]⟩::us⟩,W1,run_enterLoop_outer _ _ _ _ _,?_,fun _ _=>trivial,?_,(fun h=>by cases h),CallsIn.mono kT ?_⟩
     ·simp [resolve,Ea,Deferred.ofValue];rfl
     ·have:=Cx ⟨.func (.yield L) ⟨[]⟩ ⟨[]⟩::us⟩ W1;simp only [invoke];simpa using this
     ·rintro e w' ⟨v,F',O',rfl,Fo,Oo,YN,fto,st,p,Hu,j1,j2,j3,j4,j5,j6⟩
      have hL1:w.heap.size≤L:=by show w.heap.size≤w.heap.size+1;omega
      rcases j6 with ⟨rfl,rfl,d,d1,d2⟩ | ⟨_,rfl,cj,e,rfl,hce,hat⟩
      ·refine ⟨none,_,run_endLoop j1 (by simp),?_⟩;obtain ⟨ra,_⟩:=ET (r':={ B4 with state:=.exhausted,pending:=none }) j1;have hd:xQ f.ey (Ep f s.nt ks.n) d=some z:=d1;rw [AY d2] at hd;exact ⟨Hu,Fo,Oo,YN,fto,j5.zP ra hL1 j2.2.1 j2.2.2,hd⟩
      ·refine ⟨some cj,_,run_endLoop j1 (by simp),?_⟩;obtain ⟨ra,_⟩:=ET (r':={ B4 with state:=.exhausted,pending:=some cj }) j1;have hhe:=j5.zP ra hL1 j2.2.1 j2.2.2;rcases hce with ⟨rfl,rfl⟩ | ⟨i,rfl,rfl⟩
       ·exact wpIn_ret ⟨Hu,Fo,Oo,YN,fto,hhe,hat _ _ _⟩
       ·exact wpIn_exit ⟨Hu,Fo,Oo,YN,fto,hhe,hat _ _ _⟩
    ·have ym:Fr w F O μ (below m0) W1 F1 O1 Hz:=hh.fr.trans gw.fr;have LK:=ca2 Q4;exact ⟨LK.1,fun i hi=>(LK.2 i hi).mono (fun b hb=>ym.frozen hs.hr b hb) ym.zK (fun _ h=>h.elim) (fun _ h=>h) fun _ h=>h.elim⟩
   ·cases h0
  ·cases h
 ·cases h
theorem Vx {E:Env} {bJ:Nat→List CT} {A:T7} {z:R} {K0:Nat} (hE:∀ k,k≤K0→px E (bJ k)) (hI:∀ k,k≤K0→∀ c,c∈A.it k→Gu E.P c) (bF:E.P.follows .mixedOrders=true):∀ (c:Code),aax E.P z (fun m k s ks=>den E bJ A m c k s ks) c K0:=by
 intro c
 induction c with
 | skip=>
  intro m0 n0 ro k s ks h On wu ho hm w F O μ ft a fh hn hs;exact wpIn_skip ⟨s,F,O,μ,ft,.refl ho hm hn hs,h⟩
 | label l=>
  intro m0 n0 ro k s ks h On wu ho hm w F O μ ft a fh hn hs;exact wpIn_label ⟨s,F,O,μ,ft,.refl ho hm hn hs,h⟩
 | exit id=>
  intro m0 n0 ro k s ks h On wu ho hm w F O μ ft a fh hn hs;exact wpIn_exit ⟨s,F,O,μ,ft,.refl ho hm hn hs,h⟩
 | ret=>
  intro m0 n0 ro k s ks h On wu ho hm w F O μ ft a fh hn hs;exact wpIn_ret ⟨s,F,O,μ,ft,.refl ho hm hn hs,h⟩
 | goto l=>intro m0 n0 ro k s ks h;simp [den] at h
 | refuse l=>intro m0 n0 ro k s ks h;simp [den] at h
 | rangeFunc g ps x y ih1 ih2=>
  intro m0 n0 ro k s ks h On wu ho hm w F O μ ft a fh hn hs;obtain ⟨ps⟩:=ps;obtain ⟨hro,YH⟩:=On.resolve_right (by simp [tP]);subst hro;simp only [den] at h;exact aay hI ih1 ih2 h wu YH ho hm fh hn hs
 | region id ops draw=>
  intro m0 n0 ro k s ks h On wu ho hm w F O μ ft a fh hn hs;obtain ⟨ops⟩:=ops;cases draw with
  | false=>
   simp only [den] at h;refine wpIn_region_list (aak (hE k wu) h ho hm hn hs (fun s' a' w' F' O' aZ bX h1 h2=>⟨s',F',O',aZ,bX,h2,h1⟩) fun v u s' a' w' F' O' aZ bX h1 hw h2 h3=>⟨s',F',O',aZ,bX,h3,u,v,rfl,h1,hw,h2⟩)
  | true=>
   simp only [den] at h;split at h
   ·obtain ⟨y1,y2,y3,_,S3,y4⟩:=Eh (sk s.H) ho hs;generalize pw s (sk s.H)=s0 at h y1 y2 y3 y4;rw [← y2] at y4;clear hs ho;have hs:=y4;have ho:=y1;have hm:m0≤s0.N:=by rw [y2];exact hm
    have hn:=hn.to y3;unfold acR at h;split at h
    ·split at h
     ·exact Vy (hE k wu) bF h ho hm hn hs fun s' a' w' F' O' aZ bX h1 h2=>⟨s',F',O',aZ,bX,h2,h1⟩
     ·cases h
    ·exact Yi (hE k wu) bF h ho hm hn hs fun s' a' w' F' O' aZ bX h1 h2=>⟨s',F',O',aZ,bX,h2,h1⟩
   ·cases h
 | seq x y ihx ihy=>
  intro m0 n0 ro k s ks h On wu ho hm w F O μ ft a fh hn hs;have acf:tP (.seq x y)=true→tP x=true:=fun h=>by simp only [tP,Bool.and_eq_true] at h;exact h.1
  have acg:tP (.seq x y)=true→tP y=true:=fun h=>by simp only [tP,Bool.and_eq_true] at h;exact h.2
  simp only [den] at h;refine wpIn_seq ?_;split at h
  ·rename_i f hf;simp only [share] at h;refine Code.wpIn_mono ?_ (ihx m0 n0 ro k s _ h (On.imp id acf) wu ho hm fh hn hs)
   rintro e a' w' ⟨s',F',O',aZ,bX,hh,hk⟩
   cases e with
   | normal=>
    obtain ⟨x,s2,h1,h2,F2,O2,zl,EJ,h3⟩:=AX (w:=w') (F:=F') (O:=O') (μ:=aZ) (ft:=bX) (a:=a') hk hh.ok hh.le hh.nt hh.sr;have h2':instF s.nt f (ew f.ey x)=some s2:=by rw [hn.1,← hh.nt.1];exact h2
    rw [AY h2'] at h1;exact Code.wpIn_mono (Er.trans (hh.fr.trans h3.fr)) (ihy m0 n0 ro k s2 ks h1 (On.imp id acg) wu h3.ok h3.le (Nat.le_trans fh hh.fr.size) h3.nt h3.sr)
   | _=>exact ⟨s',F',O',aZ,bX,hh,hk⟩
  ·refine Code.wpIn_mono ?_ (ihx m0 n0 ro k s _ h (On.imp id acf) wu ho hm fh hn hs)
   rintro e a' w' ⟨s',F',O',aZ,bX,hh,hk⟩
   cases e with
   | normal=>exact Code.wpIn_mono (Er.trans hh.fr) (ihy m0 n0 ro k s' ks hk (On.imp id acg) wu hh.ok hh.le (Nat.le_trans fh hh.fr.size) hh.nt hh.sr)
   | _=>exact ⟨s',F',O',aZ,bX,hh,hk⟩
 | cond c x y ihx ihy=>
  intro m0 n0 ro k s ks h On wu ho hm w F O μ ft a fh hn hs;have acf:tP (.cond c x y)=true→tP x=true:=fun h=>by simp only [tP,Bool.and_eq_true] at h;exact h.1
  have acg:tP (.cond c x y)=true→tP y=true:=fun h=>by simp only [tP,Bool.and_eq_true] at h;exact h.2
  simp only [den] at h;split at h
  ·rename_i b hb;have hv:=bY hb hs;simp only [TA.av,cL] at hv;cases b with
   | true=>exact wpIn_cond_true hv.eR (ihx m0 n0 ro k s ks h (On.imp id acf) wu ho hm fh hn hs)
   | false=>exact wpIn_cond_false hv.eR (ihy m0 n0 ro k s ks h (On.imp id acg) wu ho hm fh hn hs)
  ·cases h
 | block id c ih=>
  intro m0 n0 ro k s ks h On wu ho hm w F O μ ft a fh hn hs;simp only [den] at h;refine wpIn_block (Code.wpIn_mono ?_ (ih m0 n0 ro k s _ h On wu ho hm fh hn hs))
  rintro e a' w' ⟨s',F',O',aZ,bX,hh,hk⟩
  cases e with
  | exit b9=>
   simp only [Ks.at] at hk;simp only [Exit.inBlock];split
   ·rename_i e;subst e;rw [Nat.beq_refl] at hk;exact ⟨s',F',O',aZ,bX,hh,hk⟩
   ·rename_i e;rw [cb e] at hk;exact ⟨s',F',O',aZ,bX,hh,hk⟩
  | _=>exact ⟨s',F',O',aZ,bX,hh,hk⟩
 | scope c ih=>
  intro m0 n0 ro k s ks h On wu ho hm w F O μ ft a fh hn hs;simp only [den] at h;refine FK (Code.wpIn_mono ?_ (ih m0 n0 ro k s _ h On wu ho hm fh hn hs))
  rintro e a' w' ⟨s',F',O',aZ,bX,hh,hk⟩
  cases e with
  | goto l=>exact hk.elim
  | _=>exact ⟨s',F',O',aZ,bX,hh,hk⟩
 | loop c ih=>
  intro m0 n0 ro k s ks h On wu ho hm w F O μ ft a fh hn hs;simp only [den] at h;split at h
  ·rename_i f hf;have key:∀ (k:Nat),k≤K0→∀ (x:xP f.ey) (s':bL),xQ f.ey (iter k fun k' rec=>Ep f s.nt fun s'=>den E bJ A m0 c k' s' { ks with n:=Cz f m0 rec }) x=some z→instF s.nt f (ew f.ey x)=some s'→s'.ok→m0≤s'.N→
     ∀ {w:World} {F O:Nat→Prop} {μ:Nat→Nat} {ft:Nat→Nat→Prop} {a:Act},n0.lo≤w.heap.size→LX n0 s' a→SR w F O μ (below s'.N) s'.st ft a→zo ro E.P c (Er ks z w F O μ m0 n0) a w:=by
    intro k
    induction k with
    | zero=>
     intro _ x s' h1;simp only [iter] at h1;rw [qJ] at h1;cases h1
    | succ k ihk=>
     intro wu x s' h1 h2 I_ XS w F O μ ft a afJ hn' H3;simp only [iter] at h1;rw [AY h2] at h1;refine zo.round (Code.wpIn_mono ?_ (ih m0 n0 ro k s' _ h1 On (by omega) I_ XS afJ hn' H3))
     rintro e a' w' ⟨s2,F',O',aZ,bX,hh,hk⟩
     cases e with
     | normal=>
      obtain ⟨x',s3,k1,k2,F2,O2,zl,EJ,k3⟩:=AX (w:=w') (F:=F') (O:=O') (μ:=aZ) (ft:=bX) (a:=a') hk hh.ok hh.le hh.nt hh.sr;have k2':instF s.nt f (ew f.ey x')=some s3:=by rw [hn.1,← hh.nt.1];exact k2
      exact zo.mono (Er.trans (hh.fr.trans k3.fr)) (ihk (by omega) x' s3 k1 k2' k3.ok k3.le (Nat.le_trans afJ hh.fr.size) k3.nt k3.sr)
     | _=>exact ⟨s2,F',O',aZ,bX,hh,hk⟩
   obtain ⟨x,s',h1,h2,F',O',aZ,bX,h3⟩:=AX h ho hm hn hs;exact (zo.mono (Er.trans h3.fr) (key k wu x s' h1 h2 h3.ok h3.le fh h3.nt h3.sr)).wp
  ·cases h
end Go.Proofs.YtjkbbdldmdajkaaGreatDoor.c5
