/- What code computes, as a function of states. No condition. -/
import Derived.Test.YtljfmaaadnoggaaGreatDoorWI
import Derived.Scope
set_option linter.unusedSimpArgs false
set_option linter.unusedVariables false
namespace Go.Proofs.YtljfmaaadnoggaaGreatDoor.cX
open Go Go.RowKit
variable {w w' xW:World} {F F' Cq O O' wx:Nat→Prop} {μ bC kZ:Nat→Nat} {K K' Gg:Nat→Prop} {ft b8:Nat→Nat→Prop} {P:Program} {R:Type}
def share {α β:Type} (x:α) (f:α→β):β:=f x
def iter {ts:List Ty} {R:Type} (k:Nat) (body:Nat→Oa ts (Option R)→Oa ts (Option R)):Oa ts (Option R):=match k with
 | 0=>ZY ts fun _=>none
 | k+1=>body k (iter k body)
structure Ann where
 loop:List (Nat×jR)
 join:List (Nat×jR)
 draw:List (Nat×List Nat×List (Nat×List Nat))
 it:Nat→List IT
def ah4:List (Nat×jR)→Nat→Option jR
 | [],_=>none
 | (i,f)::r,k=>match Nat.beq k i with
  | true=>some f
  | false=>ah4 r k
def ah5:List (Nat×List Nat×List (Nat×List Nat))→Nat→Option (List Nat×List (Nat×List Nat))
 | [],_=>none
 | (i,f)::r,k=>match Nat.beq k i with
  | true=>some f
  | false=>ah5 r k
def DG:Code→Option Nat
 | .region id _ _=>some id
 | .seq a b=>match DG a with
  | some i=>some i
  | none=>DG b
 | .cond _ a b=>match DG a with
  | some i=>some i
  | none=>DG b
 | .block _ c=>DG c
 | .loop c=>DG c
 | .scope c=>DG c
 | .rangeFunc _ _ c _=>DG c
 | _=>none
def aex (l:List (Nat×jR)) (c:Code):Option jR:=match DG c with
 | some i=>ah4 l i
 | none=>none
structure Ks (R:Type) where
 n:bQ→Option R
 x:Nat→bQ→Option R
 r:bQ→Option R
 p:TA→bQ→Option R
inductive Place where
 | tm (t:Nat) (ty:Ty) (v:RV)
 | cell (id off:Nat) (ty:Ty) (v:RV)
 | dD (id off:Nat)
 | agN (t:Nat)
def Ej (s:bQ):Place→bQ
 | .tm t ty v=>match look s.tm t,v.b with
  | .ff,true=>⟨s.nt,s.N+1,(t,.ow s.N)::s.tm,cD s.H [(s.N,some (.row ty v []))]⟩
  | _,_=>s
 | .cell id off ty v=>match aR s.H id,v.b with
  | some (.box l),true=>match l.getD off .top with
   | .ff=>⟨s.nt,s.N+1,s.tm,cD s.H [(id,some (.box (l.set off (.ow s.N)))),(s.N,some (.row ty v []))]⟩
   | _=>s
  | _,_=>s
 | .dD id off=>match aR s.H id with
  | some (.box l)=>match l.getD off .top with
   | .ow j=>match aR s.H j with
    | some (.row ty v xs)=>⟨s.nt,s.N+1,s.tm,cD s.H [(id,some (.box (l.set off (.ow s.N)))),(s.N,some (.row ty v xs)),(j,none)]⟩
    | _=>s
   | _=>s
  | _=>s
 | .agN t=>match look s.tm t with
  | .ow j=>match aR s.H j with
   | some (.row ty v xs)=>⟨s.nt,s.N+1,(t,.ow s.N)::s.tm,cD s.H [(s.N,some (.row ty v xs)),(j,none)]⟩
   | _=>s
  | _=>s
def CB (s:bQ):List Place→bQ
 | []=>s
 | p::r=>CB (Ej s p) r
theorem ac0 {s:bQ} {a:Act} (ty:Ty) (v:RV) (hs:SR w F O μ (below s.N) s.st ft a):
  HR w F O (KV μ s.N 0) (below (s.N+1)) (s.st.H.c_ [(s.N,some (.row true (fg ty) 0 (bY v ty [])))]) ft∧Fr w F O μ (below s.N) w F O (KV μ s.N 0):=by
 have h:=G3 (N:=s.N) (bB:=fg ty) (e:=bY v ty []) hs.hr (fun h=>absurd h (by simp [below]))
 have e:plus (below s.N) [s.N]=below (s.N+1):=Dw s.N 1
 rw [e] at h
 exact h
theorem HR.ajt {H H':Hp} (hr:HR w F O μ K H ft) (h:∀ id b',H' id=some b'→∃ b,H id=some b∧(b'.fa=true→b.fa=true)∧∀ o,h_ w F μ K (ft id) (μ id) o b→h_ w F μ K (ft id) (μ id) o b'):HR w F O μ K H' ft:=by
 have lv:∀ id,H'.live id→H.live id:=fun id ⟨b',cu,hl⟩=>by
  obtain ⟨b,h1,h2,_⟩:=h id b' cu
  exact ⟨b,h1,h2 hl⟩
 refine { lt:=hr.lt,known:=fun id b' cu=>?_,dw:=fun id b' cu hl=>?_,self:=fun id hl=>hr.self id (lv id hl),own:=fun id hl=>hr.own id (lv id hl),dj:=fun id cg hl Ds=>hr.dj id cg (lv id hl) (lv cg Ds),z8:=hr.z8,wf:=hr.wf,rH:=hr.rH,pos:=hr.pos }
 ·obtain ⟨b,h1,_⟩:=h id b' cu
  exact hr.known id b h1
 ·obtain ⟨b,h1,h2,h3⟩:=h id b' cu
  obtain ⟨o,ho,hB⟩:=hr.dw id b h1 (h2 hl)
  exact ⟨o,ho,h3 o hB⟩
theorem ZD {v:Bool} {j N n bB:Nat} {u:Value} (hN:K N) (TK:(v=true∧n=0)∨μ N=μ j) (h:VR w F μ K (dr v j n bB) u):VR w F μ K (dr v N n bB) u:=by
 cases v with
 | false=>
  have e:μ N=μ j:=by rcases TK with ⟨h,_⟩ | h;cases h;exact h
  simp only [dr] at h ⊢
  cases h with
  | ms _ _ _ _ cap sz t cb hc hs fL=>rw [← e];exact .ms _ _ _ _ cap sz t hN hc (by rw [e];exact hs) fL
 | true=>
  simp only [dr] at h ⊢
  cases h with
  | vs _ _ _ cap sz t hn cb hc hs fL=>
   have e:μ N=μ j:=by rcases TK with ⟨_,h⟩ | h;exact absurd h hn;exact h
   rw [← e];exact .vs _ _ _ cap sz t hn hN hc (by rw [e];exact hs) fL
  | xV=>exact .xV _ _ _
theorem agO {s:bQ} {a:Act} {j:Nat} {ty:Ty} {v:RV} {xs:List ty.dn} (hs:SR w F O μ (below s.N) s.st ft a) (hj:aR s.H j=some (.row ty v xs)):
  ∃ bC b8,HR w F O bC (below (s.N+1)) (s.st.H.c_ [(s.N,some (.row v.b (fg ty) xs.length (bY v ty xs))),(j,none)]) b8∧Fr w F O μ (below s.N) w F O bC∧
   ∀ u,VR w F bC (below (s.N+1)) (dr v.b j xs.length (fg ty)) u→VR w F bC (below (s.N+1)) (dr v.b s.N xs.length (fg ty)) u:=by
 have hH:s.st.H j=some (.row v.b (fg ty) xs.length (bY v ty xs)):=dz hj
 have hjN:j < s.N:=hs.hr.known j _ hH
 have eK:plus (below s.N) [s.N]=below (s.N+1):=Dw s.N 1
 have hKN:¬ below s.N s.N:=by simp [below]
 cases hl:(kq.row v.b (fg ty) xs.length (bY v ty xs)).fa with
 | true=>
  obtain ⟨o,ho,hB⟩:=hs.hr.dw j _ hH hl
  have iM:s.st.H.live j:=⟨_,hH,hl⟩
  have ac1:=hs.hr.self j iM
  have hO:=hs.hr.own j iM _ ac1
  have hp:tz w w (μ j) o:=⟨rfl,rfl,rfl,Nat.le_refl _,hs.hr.lt j hjN,ho,fun _ _ _=>rfl,fun _ _=>rfl⟩
  obtain ⟨k1,k2⟩:=KX (M:=s.N) (L:=[j]) (S:=ft j) hs.hr hp (.inl hO) (fun h=>absurd h hKN) (fun x hx=>.inr ⟨j,.inr (by simp),iM,hx⟩) ac1
   (fun id h1 h2 h3 h4=>h3 (by have:=hs.hr.dj id j h1 iM _ h4 ac1;simp [this])) hB
  have eO:(fun x=>O x∨x=μ j)=O:=by
   funext x
   exact propext ⟨fun h=>by rcases h with h | h;exact h;rw [h];exact hO,.inl⟩
  rw [eO,eK] at k1
  rw [eO] at k2
  refine ⟨_,_,k1,k2,fun u hu=>ZD (by simp [below]) (.inr ?_) hu⟩
  rw [iI,KW (by omega)]
 | false=>
  have hv:v.b=true∧xs.length=0:=by
   cases hvb:v.b with
   | false=>rw [hvb] at hl;simp [kq.fa] at hl
   | true=>rw [hvb] at hl;simpa [kq.fa] using hl
  obtain ⟨k1,k2⟩:=G3 (N:=s.N) (bB:=fg ty) (e:=bY v ty xs) hs.hr hKN
  rw [eK] at k1
  refine ⟨_,ft,k1.imp fun id b' cu=>?_,k2,fun u hu=>ZD (by simp [below]) (.inl hv) hu⟩
  simp only [Hp.c_] at cu ⊢
  by_cases e:id=s.N
  ·rw [if_pos e] at cu ⊢
   rw [hv.1,hv.2] at cu
   exact ⟨b',cu,eV.refl _⟩
  ·rw [if_neg e] at cu ⊢
   by_cases e2:id=j
   ·rw [if_pos e2] at cu;cases cu
   ·rw [if_neg e2] at cu
    exact ⟨b',cu,eV.refl _⟩
theorem SB {s:bQ} {a:Act} {j:Nat} {ty:Ty} {v:RV} {xs:List ty.dn} (ho:s.ok) (hs:SR w F O μ (below s.N) s.st ft a) (hj:aR s.H j=some (.row ty v xs)) {WV:List (Nat×TA)} {H':List (Nat×aY)}
  (jM:Sub s.H H' s.N) (hN:aR H' s.N=some (.row ty v xs)) (ko:∀ b,aR H' j=some b→b.WT=false) (htm:∀ t,look WV t=look s.tm t∨(look s.tm t=.ow j∧look WV t=.ow s.N))
  (hH:∀ id,id≠s.N→id≠j→aR H' id=aR s.H id∨∃ l off,aR s.H id=some (.box l)∧l.getD off .top=.ow j∧aR H' id=some (.box (l.set off (.ow s.N)))):
  bQ.ok ⟨s.nt,s.N+1,WV,H'⟩∧s.N≤s.N+1∧s.nt=s.nt∧Sub s.H H' s.N∧∃ bC b8,SR w F O bC (below (s.N+1)) (bQ.st ⟨s.nt,s.N+1,WV,H'⟩) b8 a∧Fr w F O μ (below s.N) w F O bC:=by
 obtain ⟨bC,b8,h1,h2,h3⟩:=agO hs hj
 have hjN:j < s.N:=hs.hr.known j _ (dz hj)
 have ej:(TA.ow j).av s.H=dr v.b j xs.length (fg ty):=by simp only [TA.av,hj,fM]
 have eN:(TA.ow s.N).av H'=dr v.b s.N xs.length (fg ty):=by simp only [TA.av,hN,fM]
 have stp:∀ {x u},VR w F μ (below s.N) x u→VR w F bC (below (s.N+1)) x u:=fun hx=>hx.step hs.hr h2 fun id (h:id < s.N)=>(by show id < s.N+1;omega)
 refine ⟨⟨fun t=>?_,fun id l hl=>?_⟩,Nat.le_succ _,rfl,jM,bC,b8,⟨h1.ajt fun id b' hb=>?_,hs.nt,fun t=>?_,hs.df⟩,h2⟩
 ·show (look WV t).wf H' (s.N+1)
  rcases htm t with e | ⟨_,e⟩
  ·rw [e];exact (jQ jM (Nat.le_succ _) _ (ho.tm t)).2
  ·rw [e];simp only [TA.wf];omega
 ·have hl:aR H' id=some l:=hl
  by_cases e:id=s.N
  ·rw [e,hN] at hl;cases hl;simp only [aY.refs,iw]
  ·by_cases e2:id=j
   ·subst e2
    have:=ko _ hl
    cases l with
    | cb=>simp only [aY.refs,iw]
    | _=>cases this
   ·rcases hH id e e2 with h | ⟨l0,off,q3,q4,q5⟩
    ·rw [h] at hl;exact (iK jM (Nat.le_succ _) _ (ho.H id _ hl)).2
    ·rw [q5] at hl
     cases hl
     have hw:=(iK jM (Nat.le_succ s.N) _ (show iw s.H s.N l0 from ho.H id _ q3)).2
     refine c8.2 fun x hx=>?_
     rcases List.mem_or_eq_of_mem_set hx with h | h
     ·exact c8.1 hw x h
     ·rw [h];simp only [TA.wf];omega
 ·obtain ⟨c,hc,hv,rfl⟩:=iv hb
  by_cases e:id=s.N
  ·subst e
   rw [hN] at hc
   cases hc
   exact ⟨_,by simp only [Hp.c_,if_true];rfl,fun h=>h,fun o h=>h⟩
  ·by_cases e2:id=j
   ·subst e2;have:=ko _ hc;rw [this] at hv;cases hv
   ·have eu:(s.st.H.c_ [(s.N,some (.row v.b (fg ty) xs.length (bY v ty xs))),(j,none)]) id=s.st.H id:=by simp only [Hp.c_,if_neg e,if_neg e2]
    rw [eu]
    rcases hH id e e2 with h | ⟨l0,off,q3,q4,q5⟩
    ·rw [h] at hc
     refine ⟨_,dz hc hv,?_⟩
     rw [show (bQ.H ⟨s.nt,s.N+1,WV,H'⟩)=H' from rfl,qy jM (ho.H id _ hc)]
     exact ⟨fun h=>h,fun o h=>h⟩
    ·rw [q5] at hc
     cases hc
     refine ⟨_,dz q3,fun _=>rfl,fun o ⟨cs,t,m1,m2,m3,m4⟩=>⟨cs,t,m1,m2,?_,fun k hk=>?_⟩⟩
     ·rw [bI] at m3 ⊢;simpa using m3
     ·rw [bI] at hk
      have Sq:k < l0.length:=by simpa using hk
      have m5:=m4 k (by rw [bI];exact Sq)
      rw [dH _ _ _ Sq] at m5
      rw [dH _ _ _ hk]
      show VR w F bC _ (((l0.set off (.ow s.N)).getD k .top).av H') _
      by_cases e3:off=k
      ·subst e3
       have e4:(l0.set off (.ow s.N)).getD off .top=.ow s.N:=by simp [List.getD,Sq]
       rw [q4,ej] at m5
       rw [e4,eN]
       exact h3 _ m5
      ·have e4:(l0.set off (.ow s.N)).getD k .top=l0.getD k .top:=by simp [List.getD,List.getElem?_set_ne e3]
       rw [e4,(jQ jM (Nat.le_refl _) _ (Dz (show iw s.H s.N l0 from ho.H id _ q3) k)).1]
       exact m5
 ·show VR w F _ _ ((look WV t).av H') _
  have hv:=hs.tm t
  rcases htm t with e | ⟨e0,e⟩
  ·rw [e,(jQ jM (Nat.le_refl _) _ (ho.tm t)).1]
   exact stp hv
  ·rw [e,eN]
   have Mv:VR w F μ (below s.N) ((look s.tm t).av s.H) (a.tmps.getD t undef):=hv
   rw [e0,ej] at Mv
   exact h3 _ (stp Mv)
theorem ac2 {s:bQ} {a:Act} (p:Place) (ho:s.ok) (hs:SR w F O μ (below s.N) s.st ft a):(Ej s p).ok∧s.N≤(Ej s p).N∧(Ej s p).nt=s.nt∧
  Sub s.H (Ej s p).H s.N∧∃ bC b8,SR w F O bC (below (Ej s p).N) (Ej s p).st b8 a∧Fr w F O μ (below s.N) w F O bC:=by
 have same:s.ok∧s.N≤s.N∧s.nt=s.nt∧Sub s.H s.H s.N∧∃ bC b8,SR w F O bC (below s.N) s.st b8 a∧Fr w F O μ (below s.N) w F O bC:=⟨ho,Nat.le_refl _,rfl,Sub.refl _ _,μ,ft,hs,Fr.refl _ _ _ _ _⟩
 have key:∀ (ty:Ty) (v:RV) (WV:List (Nat×TA)) (H':List (Nat×aY)),v.b=true→Sub s.H H' s.N→aR H' s.N=some (.row ty v [])→(∀ t,look WV t=look s.tm t∨(look s.tm t=.ff∧look WV t=.ow s.N))→
   (∀ id,id≠s.N→aR H' id=aR s.H id∨∃ l off,aR s.H id=some (.box l)∧l.getD off .top=.ff∧aR H' id=some (.box (l.set off (.ow s.N))))→
   bQ.ok ⟨s.nt,s.N+1,WV,H'⟩∧s.N≤s.N+1∧s.nt=s.nt∧Sub s.H H' s.N∧∃ bC b8,SR w F O bC (below (s.N+1)) (bQ.st ⟨s.nt,s.N+1,WV,H'⟩) b8 a∧Fr w F O μ (below s.N) w F O bC:=by
  intro ty v WV H' hvb jM hN htm hH
  obtain ⟨h1,h2⟩:=ac0 (s:=s) (a:=a) ty v hs
  have ZE:∀ {w F bC K' v},VR w F bC K' .ff v→VR w F bC K' ((TA.ow s.N).av H') v:=fun {w F bC K' v} hv=>by
   rw [hv.pY]
   simp only [TA.av,hN,fM,List.length_nil,hvb,dr]
   exact .xV _ _ _
  have agP:∀ {bC K' v},VR w F bC K' .ff v→VR w F bC K' ((TA.ow s.N).av H') v:=fun {bC K' v} hv=>ZE hv
  have stp:∀ {x v},VR w F μ (below s.N) x v→VR w F (KV μ s.N 0) (below (s.N+1)) x v:=fun hx=>hx.step hs.hr h2 fun id (h:id < s.N)=>(by show id < s.N+1;omega)
  refine ⟨⟨fun t=>?_,fun id l hl=>?_⟩,Nat.le_succ _,rfl,jM,_,ft,⟨h1.imp fun id b' hb=>?_,hs.nt,fun t=>?_,hs.df⟩,h2⟩
  ·show (look WV t).wf H' (s.N+1)
   rcases htm t with e | ⟨_,e⟩
   ·rw [e];exact (jQ jM (Nat.le_succ _) _ (ho.tm t)).2
   ·rw [e];simp only [TA.wf];omega
  ·have hl:aR H' id=some l:=hl
   by_cases e:id=s.N
   ·rw [e,hN] at hl;cases hl;simp only [aY.refs,iw]
   ·rcases hH id e with h | ⟨l0,off,h3,h4,h5⟩
    ·rw [h] at hl;exact (iK jM (Nat.le_succ _) _ (ho.H id _ hl)).2
    ·rw [h5] at hl
     cases hl
     have hw:=(iK jM (Nat.le_succ s.N) _ (show iw s.H s.N l0 from ho.H id _ h3)).2
     refine c8.2 fun x hx=>?_
     rcases List.mem_or_eq_of_mem_set hx with h | h
     ·exact c8.1 hw x h
     ·rw [h];simp only [TA.wf];omega
  ·obtain ⟨c,hc,hv,rfl⟩:=iv hb
   by_cases e:id=s.N
   ·subst e
    rw [hN] at hc
    cases hc
    refine ⟨_,by rw [Hp.Dr,if_pos rfl],?_⟩
    simp only [aY.dw,hvb,List.length_nil]
    exact eV.refl _
   ·rw [Hp.Dr,if_neg e]
    rcases hH id e with h | ⟨l0,off,h3,h4,h5⟩
    ·rw [h] at hc
     refine ⟨_,dz hc hv,?_⟩
     rw [show (bQ.H ⟨s.nt,s.N+1,WV,H'⟩)=H' from rfl,qy jM (ho.H id _ hc)]
     exact eV.refl _
    ·rw [h5] at hc
     cases hc
     refine ⟨_,dz h3,?_⟩
     simp only [aY.dw]
     refine VU (by rw [bI,bI];simp) fun k hk=>?_
     rw [bI] at hk
     have Sq:k < l0.length:=by simpa using hk
     rw [dH _ _ _ Sq,dH _ _ _ hk]
     intro w1 F1 ME K1 v1 LG
     by_cases e2:off=k
     ·subst e2
      have e3:(l0.set off (.ow s.N)).getD off .top=.ow s.N:=by simp [List.getD,Sq]
      rw [h4] at LG
      simp only [TA.av] at LG
      show VR w1 F1 ME K1 (((l0.set off (.ow s.N)).getD off .top).av H') v1
      rw [e3]
      exact ZE LG
     ·have e3:(l0.set off (.ow s.N)).getD k .top=l0.getD k .top:=by simp [List.getD,List.getElem?_set_ne e2]
      show VR w1 F1 ME K1 (((l0.set off (.ow s.N)).getD k .top).av H') v1
      rw [e3,(jQ jM (Nat.le_refl _) _ (Dz (show iw s.H s.N l0 from ho.H id _ h3) k)).1]
      exact LG
  ·show VR w F _ _ ((look WV t).av H') _
   have hv:=hs.tm t
   rcases htm t with e | ⟨e0,e⟩
   ·rw [e,(jQ jM (Nat.le_refl _) _ (ho.tm t)).1]
    exact stp hv
   ·rw [e]
    have Mv:VR w F μ (below s.N) ((look s.tm t).av s.H) (a.tmps.getD t undef):=hv
    rw [e0] at Mv
    simp only [TA.av] at Mv
    exact agP (stp Mv)
 cases p with
 | tm t ty v=>
  simp only [Ej]
  split
  ·rename_i h0 hvb
   refine key ty v _ _ hvb oU (by rw [tt,if_pos rfl]) (fun u=>?_) fun id e=>.inl (by rw [tt,if_neg e])
   simp only [look]
   cases e:Nat.beq u t with
   | true=>rw [Nat.eq_of_beq_eq_true e];exact .inr ⟨h0,rfl⟩
   | false=>exact .inl rfl
  ·exact same
 | cell rJ off ty v=>
  simp only [Ej]
  split
  ·rename_i l hl hvb
   split
   ·rename_i h0
    have pw:rJ≠s.N:=fun e=>by
     have:=hs.hr.known rJ _ (dz hl)
     simp only [below] at this;omega
    refine key ty v _ _ hvb (fun id cb=>?_) ?_ (fun u=>.inl rfl) fun id e=>?_
    ·simp only [cD,aR]
     cases e:Nat.beq id rJ with
     | true=>rw [Nat.eq_of_beq_eq_true e,hl];rfl
     | false=>simp only [cl (show ¬ id=s.N by omega)]
    ·simp only [cD,aR,cl (show ¬ s.N=rJ from fun h=>pw h.symm),Nat.beq_refl]
    ·simp only [cD,aR]
     cases e2:Nat.beq id rJ with
     | true=>rw [Nat.eq_of_beq_eq_true e2];exact .inr ⟨l,off,hl,h0,rfl⟩
     | false=>exact .inl (by simp only [cl e])
   ·exact same
  ·exact same
 | dD rJ off=>
  simp only [Ej]
  split
  ·rename_i l hl
   split
   ·rename_i j h0
    split
    ·rename_i ty v xs hj
     have pw:rJ≠s.N:=fun e=>by
      have:=hs.hr.known rJ _ (dz hl)
      simp only [below] at this;omega
     have hjN:j < s.N:=hs.hr.known j _ (dz hj)
     have LH:rJ≠j:=fun e=>by subst e;rw [hl] at hj;cases hj
     refine SB ho hs hj (fun id cb=>?_) ?_ (fun b hb=>?_) (fun u=>.inl rfl) fun id e e2=>?_
     ·simp only [cD,aR]
      cases e:Nat.beq id rJ with
      | true=>rw [Nat.eq_of_beq_eq_true e,hl];rfl
      | false=>
       simp only [cl (show ¬ id=s.N by omega)]
       cases e3:Nat.beq id j with
       | true=>simp only [fM];rw [Nat.eq_of_beq_eq_true e3]
       | false=>rfl
     ·simp only [cD,aR,cl (show ¬ s.N=rJ from fun h=>pw h.symm),Nat.beq_refl]
     ·simp only [cD,aR,cl (show ¬ j=rJ from fun h=>LH h.symm),cl (show ¬ j=s.N by omega),Nat.beq_refl,Option.some.injEq] at hb
      rw [← hb];rfl
     ·simp only [cD,aR]
      cases e3:Nat.beq id rJ with
      | true=>rw [Nat.eq_of_beq_eq_true e3];exact .inr ⟨l,off,hl,h0,rfl⟩
      | false=>exact .inl (by simp only [cl e,cl e2])
    ·exact same
   ·exact same
  ·exact same
 | agN t=>
  simp only [Ej]
  split
  ·rename_i j h0
   split
   ·rename_i ty v xs hj
    have hjN:j < s.N:=hs.hr.known j _ (dz hj)
    refine SB ho hs hj (fun id cb=>?_) ?_ (fun b hb=>?_) (fun u=>?_) fun id e e2=>?_
    ·simp only [cD,aR,cl (show ¬ id=s.N by omega)]
     cases e3:Nat.beq id j with
     | true=>simp only [fM];rw [Nat.eq_of_beq_eq_true e3]
     | false=>rfl
    ·simp only [cD,aR,Nat.beq_refl]
    ·simp only [cD,aR,cl (show ¬ j=s.N by omega),Nat.beq_refl,Option.some.injEq] at hb
     rw [← hb];rfl
    ·simp only [look]
     cases e:Nat.beq u t with
     | true=>rw [Nat.eq_of_beq_eq_true e];exact .inr ⟨h0,rfl⟩
     | false=>exact .inl rfl
    ·exact .inl (by simp only [cD,aR,cl e,cl e2])
   ·exact same
  ·exact same
theorem Lx {a:Act}:∀ (L:List Place) {s:bQ} {μ:Nat→Nat} {ft:Nat→Nat→Prop},s.ok→SR w F O μ (below s.N) s.st ft a→(CB s L).ok∧s.N≤(CB s L).N∧(CB s L).nt=s.nt∧
  Sub s.H (CB s L).H s.N∧∃ bC b8,SR w F O bC (below (CB s L).N) (CB s L).st b8 a∧Fr w F O μ (below s.N) w F O bC
 | [],s,μ,ft,ho,hs=>⟨ho,Nat.le_refl _,rfl,Sub.refl _ _,μ,ft,hs,Fr.refl _ _ _ _ _⟩
 | p::r,s,μ,ft,ho,hs=>by
  obtain ⟨h1,h2,h3,h6,ME,Zc,h4,h5⟩:=ac2 p ho hs
  obtain ⟨k1,k2,k3,k6,Ic,Nz,k4,k5⟩:=Lx r h1 h4
  exact ⟨k1,Nat.le_trans h2 k2,k3.trans h3,(fun id cb=>(k6 id (Nat.lt_of_lt_of_le cb h2)).trans (h6 id cb)),Ic,Nz,k4,h5.trans (k5.QQ fun id (cb:id < s.N)=>(show id < (Ej s p).N by omega))⟩
def GF (m0:Nat) (c6:List Bp) (id:Nat):Nat→List wR→List TA→List Place
 | off,.ow j::ps,.ff::as=>match c6[j]? with
  | some (.row ty v)=>.cell id off ty v::GF m0 c6 id (off+1) ps as
  | _=>GF m0 c6 id (off+1) ps as
 | off,.ow j::ps,.ow i::as=>match Nat.ble m0 j&&Nat.blt i m0 with
  | true=>.dD id off::GF m0 c6 id (off+1) ps as
  | false=>GF m0 c6 id (off+1) ps as
 | off,_::ps,_::as=>GF m0 c6 id (off+1) ps as
 | _,_,_=>[]
def afa (m0:Nat) (c6:List Bp) (H:List (Nat×aY)) (j id:Nat):List Place:=match c6[j]?,aR H id with
 | some (.box ps),some (.box l)=>GF m0 c6 id 0 ps l
 | _,_=>[]
def Ry (m0:Nat) (c6:List Bp) (s:bQ):List (Nat×wR)→List Place
 | []=>[]
 | (t,.ow j)::r=>match look s.tm t with
  | .ff=>match c6[j]? with
   | some (.row ty v)=>.tm t ty v::Ry m0 c6 s r
   | _=>Ry m0 c6 s r
  | .ow i=>match Nat.ble m0 j&&Nat.blt i m0 with
   | true=>.agN t::Ry m0 c6 s r
   | false=>Ry m0 c6 s r
  | _=>Ry m0 c6 s r
 | (t,.bp j _)::r=>match look s.tm t with
  | .bp id _=>afa m0 c6 s.H j id++Ry m0 c6 s r
  | _=>Ry m0 c6 s r
 | _::r=>Ry m0 c6 s r
def Qv (m0:Nat) (c6:List Bp) (s:bQ):Nat→List Place
 | 0=>[]
 | m+1=>afa m0 c6 s.H m m++Qv m0 c6 s m
def ac3 (f:jR) (m0:Nat) (J:Oa f.ef (Option R)) (s:bQ):Option R:=match agB (CB s (Qv m0 f.c6 s m0++Ry m0 f.c6 s f.tms)) m0 f with
 | some ds=>match oN f.ef ds with
  | some x=>zA f.ef J x
  | none=>none
 | none=>none
def Ek (f:jR) (m0:Nat) (J:Oa f.ef (Option R)) (s:bQ):Option R:=ac3 f m0 J (tv s (A9 s.H))
def GG (f:jR) (nt:Nat) (X:bQ→Option R):Oa f.ef (Option R):=ZY f.ef fun x=>match instF nt f (e_ f.ef x) with
 | some s=>X s
 | none=>none
def Yq (ps:List Nat) (nt:Nat) (f:jR) (m0:Nat) (D1 D2:Nat→bQ→Ks R→Option R) (ks:Ks R) (ds:List cI) (J:Oa f.ef (Option R)):Oa f.ef (Option R):=
 GG f nt fun s'=>D1 s'.N (s'.args ps ds) ⟨fun s1=>D2 s'.N s1 ⟨fun s2=>Ek f m0 J (s'.back s2),fun i s2=>ks.x i (s'.back s2),fun s2=>ks.r (s'.back s2),fun _ _=>none⟩,fun _ _=>none,fun _=>none,fun _ _=>none⟩
def Yr (E:Env) (A:Ann) (m0:Nat) (ok:Bool) (ps:List Nat) (D1 D2:Nat→bQ→Ks R→Option R) (fr:Option jR) (k:Nat) (s:bQ) (ks:Ks R):TA→Option R
 | .fn (.func fi) [] BD=>match fr,ok&&ps.all (fun t=>t.blt s.nt) with
  | some f,true=>Ut s.H fi BD (A.it k) fun c xs=>match Nat.beq ps.length c.ef.length with
   | true=>Ek f m0 (DL (fun y=>Yq ps s.nt f m0 D1 D2 ks (e_ c.ef y)) (GG f s.nt ks.n) xs) s
   | false=>none
  | _,_=>none
 | _=>none
def afb (E:Env) (bM:List CT) (ops:List Oper) (B:Array Nat) (eY:List (Nat×List Nat)) (s:bQ) (κ:bQ→Option R):Option R:=match Qw ops with
 | some _=>match eY with
  | (_,[id])::_=>Uu E bM ops B id s κ
  | _=>none
 | none=>Yn E bM ops B eY s κ
def den (E:Env) (bM:Nat→List CT) (A:Ann):Nat→Code→Nat→bQ→Ks R→Option R
 | m0,.skip,_,s,ks=>ks.n s
 | m0,.region _ ⟨ops⟩ false,k,s,ks=>Lr E (bM k) ⟨ops⟩ ops s ks.n ks.p
 | m0,.region id ⟨ops⟩ true,k,s,ks=>match ah5 A.draw id with
  | some (B,eY)=>afb E (bM k) ops ⟨B⟩ eY s ks.n
  | none=>none
 | m0,.seq x y,k,s,ks=>match aex A.join y with
  | some f=>share (GG f s.nt fun s'=>den E bM A m0 y k s' ks) fun J=>den E bM A m0 x k s { ks with n:=Ek f m0 J }
  | none=>den E bM A m0 x k s { ks with n:=fun s'=>den E bM A m0 y k s' ks }
 | m0,.cond c x y,k,s,ks=>match s.val c with
  | .d ⟨.bool,b⟩=>cond b (den E bM A m0 x k s ks) (den E bM A m0 y k s ks)
  | _=>none
 | m0,.block id c,k,s,ks=>den E bM A m0 c k s { ks with x:=fun i s'=>match Nat.beq i id with
  | true=>ks.n s'
  | false=>ks.x i s' }
 | m0,.loop c,k,s,ks=>match aex A.loop c with
  | some f=>Ek f m0 (iter k fun k' rec=>GG f s.nt fun s'=>den E bM A m0 c k' s' { ks with n:=Ek f m0 rec }) s
  | none=>none
 | m0,.exit id,_,s,ks=>ks.x id s
 | m0,.ret,_,s,ks=>ks.r s
 | m0,.scope c,k,s,ks=>den E bM A m0 c k s ks
 | m0,.label _,_,s,ks=>ks.n s
 | m0,.rangeFunc g ⟨ps⟩ x y,k,s,ks=>Yr E A m0 (wS x&&wS y) ps (fun m s ks=>den E bM A m x k s ks) (fun m s ks=>den E bM A m y k s ks) (aex A.loop x) k s ks (s.val g)
 | _,_,_,_,_=>none
def Ks.at (ks:Ks R) (z:R) (e:Exit) (s':bQ) (w':World) (F':Nat→Prop) (bC:Nat→Nat):Prop:=match e with
 | .normal=>ks.n s'=some z
 | .exit i=>ks.x i s'=some z
 | .ret=>ks.r s'=some z
 | .panic l=>∃ u v,l=[{ v:=u,recovered:=false }]∧ks.p v s'=some z∧v.wf s'.H s'.N∧VR w' F' bC (below s'.N) (v.av s'.H) u
 | _=>False
def IG (ks:Ks R) (z:R) (w:World) (F O:Nat→Prop) (μ:Nat→Nat) (m0:Nat) (nt:Nat×Nat):Exit→Act→World→Prop:=fun e a' w'=>
 ∃ s' F' O' bC b8,Ae w F O μ m0 nt s' a' w' F' O' bC b8∧ks.at z e s' w' F' bC
theorem IG.trans {ks:Ks R} {z:R} {m0:Nat} {nt:Nat×Nat} (hf:Fr w F O μ (below m0) w' F' O' bC) (e:Exit) (a:Act) (xW:World) (h:IG ks z w' F' O' bC m0 nt e a xW):IG ks z w F O μ m0 nt e a xW:=by
 obtain ⟨s',Cq,wx,kZ,b8,h1,h2⟩:=h
 exact ⟨s',Cq,wx,kZ,b8,h1.trans hf,h2⟩
theorem ac4 {f:jR} {m0:Nat} {J:Oa f.ef (Option R)} {s:bQ} {z:R} {a:Act} (h:ac3 f m0 J s=some z) (ho:s.ok) (hm:m0≤s.N) {n0:Nat×Nat} (hn:Rw n0 s a) (hs:SR w F O μ (below s.N) s.st ft a):
  ∃ x s',zA f.ef J x=some z∧instF s.nt f (e_ f.ef x)=some s'∧∃ F' O' bC b8,Ae w F O μ m0 n0 s' a w F' O' bC b8:=by
 unfold ac3 at h
 split at h
 ·rename_i ds tC
  split at h
  ·rename_i x hx
   obtain ⟨v1,v2,v3,_,ME,Zc,v4,v5⟩:=Lx (Qv m0 f.c6 s m0++Ry m0 f.c6 s f.tms) ho hs
   obtain ⟨s',h1,h2,h3,h4,h5⟩:=acJ tC (Nat.le_trans hm v2)
   obtain ⟨F',O',bC,b8,k1,k2⟩:=h5 v4
   exact ⟨x,s',h,by rw [l8 hx,← v3];exact h1,F',O',bC,b8,h2,h4,hn.to (h3.trans v3),k1,(v5.QQ fun id (cb:id < m0)=>(show id < s.N by omega)).trans k2⟩
  ·cases h
 ·cases h
theorem CC {f:jR} {m0:Nat} {J:Oa f.ef (Option R)} {s:bQ} {z:R} {a:Act} (h:Ek f m0 J s=some z) (ho:s.ok) (hm:m0≤s.N) {n0:Nat×Nat} (hn:Rw n0 s a) (hs:SR w F O μ (below s.N) s.st ft a):
  ∃ x s',zA f.ef J x=some z∧instF s.nt f (e_ f.ef x)=some s'∧∃ F' O' bC b8,Ae w F O μ m0 n0 s' a w F' O' bC b8:=by
 obtain ⟨y1,y2,y3,_,Zc,y4⟩:=Lg (A9 s.H) ho hs
 unfold Ek at h
 generalize tv s (A9 s.H)=s0 at h y1 y2 y3 y4
 rw [← y2] at y4
 have:=ac4 h y1 (by rw [y2];exact hm) (hn.to y3) y4
 rw [y3] at this
 exact this
theorem CD {f:jR} {nt:Nat} {X:bQ→Option R} {x:Ad f.ef} {s':bQ} (h:instF nt f (e_ f.ef x)=some s'):zA f.ef (GG f nt X) x=X s':=by
 unfold GG
 rw [yl,h]
def Bb (r:Option Nat) (P:Program) (c:Code) (Q:Exit→Act→World→Prop) (a:Act) (w:World):Prop:=
 ∀ (b:Frame) (k:List Item) (cs:List Frame),b.roundOf=r→∃ e a' w',Q e a' w'∧ArrivesIn (Machine.fenced P (Wr r)) P (lone (b.atR a (.code c::.inLoop c::k)) cs w) b k cs e a' w'
theorem Bc {r:Option Nat} {m:Machine}:m.fenced P (Wr r):=fenced_wide P m
theorem Bb.wp {r:Option Nat} {c:Code} {Q:Exit→Act→World→Prop} {a:Act} (h:Bb r P c Q a w):(Code.loop c).wpIn (Wr r) 0 P Q a w:=by
 intro b k cs hb _ _
 obtain ⟨e,a',w',hq,JX⟩:=h b k cs hb
 exact ⟨e,a',w',hq,.of_steps (.one Bc stepR_loop) JX⟩
theorem Bb.round {r:Option Nat} {c:Code} {Q:Exit→Act→World→Prop} {a:Act} (h:c.wpIn (Wr r) 0 P (Exit.then (Bb r P c Q) Q) a w):Bb r P c Q a w:=by
 intro b k cs hb
 obtain ⟨e,Qx,Qy,hq,JX⟩:=h b (.inLoop c::k) cs hb trivial (room_wide _)
 cases e with
 | normal=>
  obtain ⟨aju,ajv,ajw,ah6,aey⟩:=hq b k cs hb
  exact ⟨aju,ajv,ajw,ah6,.of_steps (StepsIn.trans JX (.one Bc stepR_inLoop)) aey⟩
 | exit id=>exact ⟨_,Qx,Qy,hq,.pass (x:=.inLoop c) rfl (fun _ _=>.inl (by simp)) JX⟩
 | goto l=>exact ⟨_,Qx,Qy,hq,.pass (x:=.inLoop c) rfl (fun _ _=>.inl (by simp)) JX⟩
 | ret=>exact ⟨_,Qx,Qy,hq,.pass (x:=.inLoop c) rfl (fun _ _=>.inl (by simp)) JX⟩
 | panic ch=>exact ⟨_,Qx,Qy,hq,.pass (x:=.inLoop c) rfl (fun _ _=>.inl (by simp)) JX⟩
 | outgrown=>exact ⟨_,Qx,Qy,hq,.pass (x:=.inLoop c) rfl (fun _ _=>.inl (by simp)) JX⟩
theorem Bb.mono {r:Option Nat} {c:Code} {Q Q':Exit→Act→World→Prop} {a:Act} (hq:∀ e a w,Q e a w→Q' e a w) (h:Bb r P c Q a w):Bb r P c Q' a w:=fun b k cs hb=>
 let ⟨e,a',w',q,r⟩:=h b k cs hb;⟨e,a',w',hq _ _ _ q,r⟩
theorem wE {b:Frame} {a:Act} {k:List Item} {cs:List Frame} {c:Code}:step P (lone (b.atR a (.code (.scope c)::k)) cs w)=.next (lone (b.atR a (.code c::.inScope c::k)) cs w):=
 step_lone_go (by simp [stepG,stepG.exec,Frame.atR])
theorem Rz {b:Frame} {a:Act} {k:List Item} {cs:List Frame} {c:Code}:step P (lone (b.atR a (.inScope c::k)) cs w)=.next (lone (b.atR a k) cs w):=
 step_lone_go (by simp [stepG,stepG.exec,Frame.atR])
theorem Ih {r:Option Nat} {c:Code} {Q:Exit→Act→World→Prop} {a:Act} (h:c.wpIn (Wr r) 0 P (Exit.noGoto Q) a w):(Code.scope c).wpIn (Wr r) 0 P Q a w:=by
 intro b k cs hb h1 h2
 obtain ⟨e,Qx,Qy,hq,JX⟩:=h b (.inScope c::k) cs hb h1 h2
 have e1:∀ i,exitTo i (.inScope c::k)=exitTo i k:=fun i=>by simp [exitTo]
 cases e with
 | normal=>exact ⟨.normal,Qx,Qy,hq,.head Bc wE (StepsIn.trans JX (.one Bc Rz))⟩
 | exit id=>exact ⟨.exit id,Qx,Qy,hq,.of_steps (.one Bc wE) ⟨fun k' hk=>JX.1 k' (by rw [e1];exact hk),fun hr hk=>JX.2 hr (by rw [e1];exact hk)⟩⟩
 | goto l=>exact hq.elim
 | ret=>exact ⟨_,Qx,Qy,hq,.of_steps (.one Bc wE) JX⟩
 | panic ch=>exact ⟨_,Qx,Qy,hq,.of_steps (.one Bc wE) JX⟩
 | outgrown=>exact ⟨_,Qx,Qy,hq,.of_steps (.one Bc wE) JX⟩
def ac5 (P:Program) (z:R) (D:Nat→Nat→bQ→Ks R→Option R) (c:Code) (K0:Nat):Prop:=
 ∀ (m0:Nat) (n0:Nat×Nat) (ro:Option Nat) (k:Nat) (s:bQ) (ks:Ks R),D m0 k s ks=some z→(ro=none∨wS c=true)→k≤K0→s.ok→m0≤s.N→
  ∀ {w:World} {F O:Nat→Prop} {μ:Nat→Nat} {ft:Nat→Nat→Prop} {a:Act},n0.2≤w.heap.size→Rw n0 s a→SR w F O μ (below s.N) s.st ft a→c.wpIn (Wr ro) 0 P (IG ks z w F O μ m0 n0) a w
theorem Uv (w:World) (o1 o2:Obj):Gw w ((w.alloc o1).alloc o2) where
 os:=rfl
 tape:=rfl
 output:=rfl
 size:=by simp;omega
 same:=fun b hb=>by rw [Below.heap_alloc _ _ _ (by simp;omega),Below.heap_alloc _ _ _ hb]
theorem HR.more {H:Hp} (h:HR w F O μ K H ft) (hF:∀ b,F b→F' b) (hw:∀ b,F' b→b < w.heap.size) (hO:∀ b,O b→¬ F' b):HR w F' O μ K H ft where
 lt:=h.lt
 known:=h.known
 dw:=fun id b hb hl=>by
  obtain ⟨o,ho,hB⟩:=h.dw id b hb hl
  exact ⟨o,ho,hB.mono (fun _ _=>rfl) hF (fun _ _=>rfl) (fun _ h=>h) (fun _ _=>rfl) fun _ _ _=>rfl⟩
 self:=h.self
 own:=h.own
 dj:=h.dj
 z8:=hO
 wf:=hw
 rH:=h.rH
 pos:=h.pos.mono (Nat.le_refl _) hF fun _ _=>rfl
theorem ac6 {E:Env} {A:Ann} {z:R} {K0 m0:Nat} {n0:Nat×Nat} {D1 D2:Nat→Nat→bQ→Ks R→Option R} {x y:Code} {ps:List Nat} {g:Operand} {k:Nat} {s:bQ} {ks:Ks R} {fr:Option jR} {a:Act} (hI:∀ k,k≤K0→∀ c,c∈A.it k→L0 E.P c)
  (ih1:ac5 E.P z D1 x K0) (ih2:ac5 E.P z D2 y K0) (h:Yr E A m0 (wS x&&wS y) ps (fun m s ks=>D1 m k s ks) (fun m s ks=>D2 m k s ks) fr k s ks (s.val g)=some z)
  (x5:k≤K0) (ho:s.ok) (hm:m0≤s.N) (fL:n0.2≤w.heap.size) (hn:Rw n0 s a) (hs:SR w F O μ (below s.N) s.st ft a):
  (Code.rangeFunc g ⟨ps⟩ x y).wpIn (Wr none) 0 E.P (IG ks z w F O μ m0 n0) a w:=by
 unfold Yr at h
 split at h
 ·rename_i fi BD hg
  split at h
  ·rename_i f Eh
   simp only [Bool.and_eq_true] at Eh
   obtain ⟨⟨hx,hy⟩,hps⟩:=Eh
   obtain ⟨c,ds,xv,xs,hc,hf,he,hcx,hL,h0⟩:=NI h
   clear h
   split at h0
   ·rename_i hlen
    have hlen:=Nat.eq_of_beq_eq_true hlen
    subst hf
    obtain ⟨d,s',h1,h2,F1,O1,ME,Zc,hh⟩:=CC h0 ho hm hn hs
    obtain ⟨WC,ah7⟩:=hI k x5 c hc
    have hgv:=b9 hg hs
    simp only [TA.av,dU] at hgv
    obtain ⟨v0,us,Gp,hv0,UH⟩:=hgv.Ms
    have hv0:=hv0.iH
    subst hv0
    obtain ⟨cas,ca1,ca2⟩:=Qz he
    let agQ:Loop:={ state:=.ready,pending:=none,fn:=0,tmps:=a.tmps,params:=⟨ps⟩,assign:=x,body:=y,defers:=w.heap.size }
    let aM:Act:={ a with defers:=[zR w.heap.size]++a.defers }
    refine wpIn_rangeFunc fun fn _=>?_
    let DH:Loop:={ agQ with fn:=fn }
    let W1:World:=(w.alloc (.deferred (some []))).alloc (.loop DH)
    have gw:Gw w W1:=Uv w _ _
    have hW1:W1.heap.size=w.heap.size+2:=by simp [W1]
    have ajx:W1.heap[w.heap.size+1]?=some (.loop DH):=by
     have:=World.alloc_heap_new (w.alloc (.deferred (some []))) (.loop DH)
     simpa [W1] using this
    have ah8:W1.heap[w.heap.size]?=some (.deferred (some [])):=by
     have e:W1.heap[w.heap.size]?=(w.alloc (.deferred (some []))).heap[w.heap.size]?:=Below.heap_alloc _ _ _ (by simp)
     rw [e];exact World.alloc_heap_new w _
    have hdf:wP W1 F1 O1 aM.defers:=by
     refine ⟨List.nodup_cons.2 ⟨fun MO=>?_,hh.sr.df.nd⟩,fun d' PU=>?_⟩
     ·obtain ⟨b,e1,_,_,e4⟩:=hh.sr.df.all _ MO
      have e:w.heap.size=b:=by simpa [zR] using e1
      have:=(Array.getElem?_eq_some_iff.1 e4).1
      omega
     ·rcases List.mem_cons.1 PU with e | e
      ·exact ⟨w.heap.size,e,fun h=>by have:=hh.sr.hr.rH _ h;omega,fun h=>by have:=hh.sr.hr.wf _ h;omega,ah8⟩
      ·obtain ⟨b,e1,e2,e3,e4⟩:=hh.sr.df.all _ e
       exact ⟨b,e1,e2,e3,by rw [gw.same b (Array.getElem?_eq_some_iff.1 e4).1];exact e4⟩
    have hmk:∀ b,zR b∈aM.defers→b < W1.heap.size:=fun b hb=>by
     obtain ⟨b',e1,_,_,e4⟩:=hdf.all _ hb
     have e:b=b':=by simpa [zR] using e1
     rw [e];exact (Array.getElem?_eq_some_iff.1 e4).1
    have ajy:∀ {s1:bQ},Rw n0 s1 a→Rw n0 s1 aM:=fun h=>⟨h.1,fun b hb=>by
     rcases List.mem_cons.1 hb with e | e
     ·have e:b=w.heap.size:=by simpa [zR] using e
      omega
     ·exact h.2 b e⟩
    have hh1:Ae w F O μ m0 n0 s' aM W1 F1 O1 ME Zc:=⟨hh.ok,hh.le,ajy hh.nt,⟨hh.sr.hr.gw gw,hh.sr.nt,fun t=>(hh.sr.tm t).step hh.sr.hr gw.fr fun _ h=>h,hdf⟩,hh.fr.trans gw.fr⟩
    let L:Nat:=w.heap.size+1
    let body:Ad c.ef→Oa f.ef (Option R)→Oa f.ef (Option R):=fun q=>Yq ps s.nt f m0 (fun m s ks=>D1 m k s ks) (fun m s ks=>D2 m k s ks) ks (e_ c.ef q)
    let done:Oa f.ef (Option R):=GG f s.nt ks.n
    let J:List (Ad c.ef)→World→(Nat→Prop)→(Nat→Prop)→Prop:=fun ys w' Fi Oi=>∃ (Fo Oo:Nat→Prop) (μo:Nat→Nat) (fto:Nat→Nat→Prop) (st:LoopState) (p:Option Code) (JY:bQ),
     w'.heap[L]?=some (.loop { DH with state:=st,pending:=p })∧MU w' Fo Oo L∧(∀ b,Fi b→Fo b)∧(∀ b,Oi b→W1.heap.size≤b∧MU w' Fo Oo b)∧Ae w F O μ m0 n0 JY aM w' Fo Oo μo fto∧
     ((st=.ready∧p=none∧∃ d,zA f.ef (DL body done ys) d=some z∧instF s.nt f (e_ f.ef d)=some JY)∨
      (ys=[]∧st=.done∧∃ cj e,p=some cj∧((cj=.ret∧e=Exit.ret)∨∃ i,cj=.exit i∧e=Exit.exit i)∧(∀ (w':World) (F':Nat→Prop) (bC:Nat→Nat),ks.at z e JY w' F' bC)))
    have hJ0:J xs W1 F1 (fun _=>False):=
     ⟨F1,O1,ME,Zc,.ready,none,s',ajx,⟨by rw [hW1];omega,fun h=>by have:=hh.sr.hr.wf _ h;omega,fun h=>by have:=hh.sr.hr.rH _ h;omega⟩,fun _ h=>h,fun _ h=>h.elim,hh1,.inl ⟨rfl,rfl,d,h1,h2⟩⟩
    have ah9:aa7 J:=by
     rintro ys w1 w2 Fi Oi Fi' Oi' μi aj3 Ki ⟨Fo,Oo,μo,fto,st,p,JY,j1,j2,j3,j4,j5,j6⟩ wf1 wf2 z9
     have hr:=j5.sr.hr
     have hL1:W1.heap.size≤w1.heap.size:=by have:=j2.1;rw [hW1];show w.heap.size+2≤_;have:w.heap.size+1 < w1.heap.size:=this;omega
     have noi:∀ b,Fo b∨Oo b→¬ Oi b:=fun b hb hi=>hb.elim (j4 b hi).2.2.1 (j4 b hi).2.2.2
     have lt1:∀ b,Fo b∨Oo b→b < w1.heap.size:=fun b hb=>hb.elim (hr.wf b) (hr.rH b)
     have kp:Kp w1 w2 Fo Oo:=⟨z9.os,z9.tape,z9.output,z9.size,fun b hb=>z9.same b (lt1 b hb) (noi b hb),z9.shape⟩
     have hLi:¬ Oi L:=fun h=>by have:=(j4 L h).1;rw [hW1] at this;have:w.heap.size+2≤w.heap.size+1:=this;omega
     have fo':∀ b,(Fo b∨Fi' b)→Fo b∨w1.heap.size≤b∨Oi b:=fun b hb=>hb.elim .inl fun h=>(z9.JB b h).elim (fun h=>.inl (j3 b h)) .inr
     have hOo:∀ b,Oo b→¬ (Fo b∨Fi' b):=fun b hb h=>by
      rcases fo' b h with h | h | h
      ·exact hr.z8 b hb h
      ·have:=hr.rH b hb;omega
      ·exact noi b (.inr hb) h
     have hwf:∀ b,(Fo b∨Fi' b)→b < w2.heap.size:=fun b hb=>hb.elim (fun h=>Nat.lt_of_lt_of_le (hr.wf b h) z9.size) (wf2.wf b)
     have hr2:HR w2 (fun b=>Fo b∨Fi' b) Oo μo (below JY.N) JY.st.H fto:=(hr.kp kp).more (fun b h=>.inl h) hwf hOo
     refine ⟨fun b=>Fo b∨Fi' b,Oo,μo,fto,st,p,JY,by rw [z9.same L j2.1 hLi];exact j1,⟨Nat.lt_of_lt_of_le j2.1 z9.size,fun h=>?_,j2.2.2⟩,fun b h=>.inr h,fun b hb=>?_,⟨j5.ok,j5.le,j5.nt,⟨hr2,j5.sr.nt,fun t=>?_,?_⟩,?_⟩,j6⟩
     ·rcases fo' L h with h | h | h
      ·exact j2.2.1 h
      ·have:=j2.1;omega
      ·exact hLi h
     ·have EY:=wf2.rH b hb
      rcases z9.Gf b hb with h | h
      ·obtain ⟨m1,m2,m3,m4⟩:=j4 b h
       exact ⟨m1,EY,fun h=>h.elim m3 (wf2.z8 b hb),m4⟩
      ·exact ⟨Nat.le_trans hL1 h,EY,fun h'=>h'.elim (fun h'=>by have:=hr.wf b h';omega) (wf2.z8 b hb),fun h'=>by have:=hr.rH b h';omega⟩
     ·exact ((j5.sr.tm t).kp hr kp).mono (fun _ _=>rfl) (fun _ h=>.inl h) (fun _ _=>rfl) (fun _ h=>h) fun _ _=>rfl
     ·refine ⟨j5.sr.df.nd,fun d' PU=>?_⟩
      obtain ⟨b,e1,e2,e3,e4⟩:=j5.sr.df.all d' PU
      have EX:b < w1.heap.size:=(Array.getElem?_eq_some_iff.1 e4).1
      have hbi:¬ Oi b:=fun h=>by have:=(j4 b h).1;have:=hmk b (e1▸PU);omega
      refine ⟨b,e1,e2,fun h=>?_,by rw [z9.same b EX hbi];exact e4⟩
      rcases fo' b h with h | h | h
      ·exact e3 h
      ·omega
      ·exact hbi h
     ·have dQ:w.heap.size≤w1.heap.size:=by have:=hW1;omega
      refine { os:=z9.os.trans j5.fr.os,tape:=z9.tape.trans j5.fr.tape,output:=z9.output.trans j5.fr.output,size:=Nat.le_trans j5.fr.size z9.size,mu:=j5.fr.mu,Bw:=fun b h=>.inl (j5.fr.Bw b h),shape:=fun b hb=>(z9.shape b (by omega)).trans (j5.fr.shape b hb),same:=fun b hb hn=>(z9.same b (by omega) fun h=>by have:=(j4 b h).1;omega).trans (j5.fr.same b hb hn),Gf:=j5.fr.Gf,JB:=fun b hb=>?_ }
      rcases fo' b hb with h | h | h
      ·exact j5.fr.JB b h
      ·exact .inr (.inl (by omega))
      ·exact .inr (.inl (by have:=(j4 b h).1;omega))
    have Ys:QA E.P L c.ef J:=by
     rintro q r w1 Fi Oi μi vs ⟨Fo,Oo,μo,fto,st,p,JY,j1,j2,j3,j4,j5,j6⟩ wf1 CN
     rcases j6 with ⟨rfl,rfl,d,d1,d2⟩ | ⟨OS,_⟩
     case inr=>cases OS
     have hvl:vs.length=ps.length:=by rw [← CN.1,List.length_map,IH,hlen]
     refine ⟨fn,_,x,y,run_yield j1 (by simp [DH,agQ,hvl]),?_⟩
     simp only [DH,agQ]
     rw [aez]
     have hr:=j5.sr.hr
     have hsN:JY.nt=s.nt:=j5.nt.1.trans hn.1.symm
     have Gd:SR w1 Fo Oo μo (below (JY.args ps (e_ c.ef q)).N) (JY.args ps (e_ c.ef q)).st fto { tmps:=(ps.zip vs).foldl (fun tmps (t,v)=>tmps.setIfInBounds t v) a.tmps,defers:=[] }:=by
      refine ⟨hr,?_,fun t=>?_,wP.nil⟩
      ·show ((ps.zip vs).foldl (fun tmps (t,v)=>tmps.setIfInBounds t v) a.tmps).size=JY.nt
       rw [QB];exact j5.sr.nt
      ·refine ZF (nt:=JY.nt) (vs:=vs) ⟨by simpa using CN.1,fun i hi=>?_⟩ j5.sr.nt (by rw [hsN];exact hps) j5.sr.tm t
       exact ((CN.2 i hi).mono (fun _ _=>rfl) j3 (fun _ h=>h.elim) (fun _ h=>h.elim) fun _ h=>h.elim:VR w1 Fo μo _ _ _)
     have agR:(JY.args ps (e_ c.ef q)).ok:=⟨Uw j5.ok.tm ps,j5.ok.H⟩
     have hd:zA f.ef (body q (DL body done r)) d=some z:=d1
     simp only [body,Yq] at hd
     rw [CD d2] at hd
     have hL1:w.heap.size≤L:=by show w.heap.size≤w.heap.size+1;omega
     refine roundIn_of_wpIn trivial (Code.wpIn_mono ?_ (ih1 JY.N (JY.nt,0) (some L) k _ _ hd (.inr hx) x5 agR (Nat.le_refl _) (Nat.zero_le _) ⟨rfl,fun _ _=>Nat.zero_le _⟩ Gd))
     rintro e a1 w2 ⟨s1,F2,O2,Ic,Nz,k2,hk⟩
     cases e with
     | normal=>
      simp only [Ks.at] at hk
      have l2:=j2.step k2.fr
      have afc:w2.heap[L]?=some (.loop { DH with state:=.ready,pending:=none }):=by rw [j2.same k2.fr];exact j1
      obtain ⟨ra,ah_⟩:=He (r':={ DH with state:=.busy,pending:=none }) afc
      refine ⟨_,run_beginRound afc rfl,?_⟩
      have kp3:=ra.kp l2.2.1 l2.2.2
      have aeA:SR (w2.putObj L (.loop { DH with state:=.busy,pending:=none })) F2 O2 Ic (below s1.N) s1.st Nz a1:=⟨k2.sr.hr.kp kp3,k2.sr.nt,fun t=>(k2.sr.tm t).kp k2.sr.hr kp3,ra.df k2.sr.df⟩
      have l3:=l2.BC ra
      refine Code.wpIn_mono ?_ (ih2 JY.N (JY.nt,0) (some L) k s1 _ hk (.inr hy) x5 k2.ok k2.le (Nat.zero_le _) k2.nt aeA)
      rintro e a2 w4 ⟨s2,F4,O4,μ4,ft4,k4,hk4⟩
      have l4:=l3.step k4.fr
      have afd:w4.heap[L]?=some (.loop { DH with state:=.busy,pending:=none }):=by rw [l3.same k4.fr];exact ah_
      have fin:∀ (jump:Option Code) (r':Loop),r'={ DH with state:=(if jump.isNone then .ready else .done),pending:=jump }→∃ w5,(Instr.endRound L jump).run E.P w4=.ok (.bool jump.isNone) w5∧w5.heap[L]?=some (.loop r')∧Kp w1 w5 Fi Oi∧MU w5 F4 O4 L∧(∀ b,Fi b→F4 b)∧
        (∀ b,Oi b→W1.heap.size≤b∧MU w5 F4 O4 b)∧(JY.back s2).ok∧Ae w F O μ m0 n0 (JY.back s2) aM w5 F4 O4 μ4 ft4:=by
       rintro jump r' rfl
       obtain ⟨rb,aia⟩:=He (r':={ DH with state:=(if jump.isNone then .ready else .done),pending:=jump }) afd
       have l5:=l4.BC rb
       have kp5:=rb.kp l4.2.1 l4.2.2
       have vst:∀ {xx vv},VR w1 Fo μo (below JY.N) xx vv→VR (w4.putObj L (.loop { DH with state:=(if jump.isNone then .ready else .done),pending:=jump })) F4 μ4 (below s2.N) xx vv:=fun {xx vv} hv=>by
        have v2:=hv.step hr k2.fr fun id (h:id < JY.N)=>(Nat.lt_of_lt_of_le h k2.le:id < s1.N)
        have v2':VR w2 F2 Ic (below JY.N) xx vv:=hv.step hr k2.fr fun _ h=>h
        have v3:=v2'.mono (w':=w2.putObj L (.loop { DH with state:=.busy,pending:=none })) (F':=F2) (bC:=Ic) (fun b hb=>kp3.NZ b (.inl hb)) (fun _ h=>h) (fun _ _=>rfl) (fun _ h=>h) fun id cb=>kp3.shape _ (k2.sr.hr.lt id (Nat.lt_of_lt_of_le cb k2.le))
        have v4:=v3.mono (w':=w4) (F':=F4) (bC:=μ4) (K':=below s2.N) (fun b hb=>k4.fr.frozen aeA.hr b hb) k4.fr.Bw (fun id cb=>k4.fr.mu id cb) (fun id (h:id < JY.N)=>Nat.lt_of_lt_of_le h k4.le) fun id cb=>k4.fr.shape _ (aeA.hr.lt id (Nat.lt_of_lt_of_le cb k2.le))
        exact v4.kp k4.sr.hr kp5
       have dfr:wP w1 Fo Oo aM.defers:=j5.sr.df
       have df5:=rb.df ((ra.df (dfr.step k2.fr)).step k4.fr)
       have ajz:SR (w4.putObj L (.loop { DH with state:=(if jump.isNone then .ready else .done),pending:=jump })) F4 O4 μ4 (below s2.N) s2.st ft4 a2:=⟨k4.sr.hr.kp kp5,k4.sr.nt,fun t=>(k4.sr.tm t).kp k4.sr.hr kp5,rb.df k4.sr.df⟩
       obtain ⟨bk1,bk2⟩:=aeB (a:=aM) j5.ok k4.ok j5.sr ajz vst df5
       have QQ:∀ id,id < m0→id < JY.N:=fun id h=>Nat.lt_of_lt_of_le h j5.le
       have ajA:∀ b,Oi b→MU w4 F4 O4 b:=fun b hb=>(((j4 b hb).2.step k2.fr).BC ra).step k4.fr
       have ne:∀ b,Fi b∨Oi b→b≠L:=fun b hb e=>by
        subst e
        exact hb.elim (fun h=>j2.2.1 (j3 _ h)) fun h=>by
         have h1:=(j4 _ h).1
         rw [hW1] at h1
         have:w.heap.size+2≤w.heap.size+1:=h1
         omega
       refine ⟨_,run_endRound jump afd,aia,?_,l5,fun b hb=>k4.fr.Bw b (k2.fr.Bw b (j3 b hb)),fun b hb=>⟨(j4 b hb).1,(ajA b hb).BC rb⟩,bk1,⟨bk1,Nat.le_trans j5.le k4.le,⟨j5.nt.1,j5.nt.2⟩,bk2,?_⟩⟩
       ·have lt1:∀ b,Fi b∨Oi b→b < w1.heap.size:=fun b hb=>hb.elim (wf1.wf b) (wf1.rH b)
        have aib:∀ b,Fi b∨Oi b→w2.heap[b]?=w1.heap[b]?:=fun b hb=>hb.elim (fun h=>k2.fr.frozen hr b (j3 b h)) fun h=>(j4 b h).2.same k2.fr
        refine ⟨rb.os.trans (k4.fr.os.trans (ra.os.trans k2.fr.os)),rb.tape.trans (k4.fr.tape.trans (ra.tape.trans k2.fr.tape)),rb.output.trans (k4.fr.output.trans (ra.output.trans k2.fr.output)),?_,fun b hb=>?_,fun b hb=>?_⟩
        ·rw [rb.size];exact Nat.le_trans k2.fr.size (Nat.le_trans (Nat.le_of_eq ra.size.symm) k4.fr.size)
        ·rw [rb.same b (ne b hb)]
         have e4:w4.heap[b]?=(w2.putObj L (.loop { DH with state:=.busy,pending:=none })).heap[b]?:=hb.elim (fun h=>k4.fr.frozen aeA.hr b (k2.fr.Bw b (j3 b h))) fun h=>(((j4 b h).2.step k2.fr).BC ra).same k4.fr
         rw [e4,ra.same b (ne b hb),aib b hb]
        ·rw [rb.shape b]
         have hb3:b < (w2.putObj L (.loop { DH with state:=.busy,pending:=none })).heap.size:=by rw [ra.size];exact Nat.lt_of_lt_of_le hb k2.fr.size
         rw [k4.fr.shape b hb3,ra.shape b,k2.fr.shape b hb]
       ·exact ((((j5.fr.trans (k2.fr.QQ QQ)).BC ra hL1).trans (k4.fr.QQ QQ)).BC rb hL1)
      cases e with
      | normal=>
       simp only [Ks.at] at hk4
       obtain ⟨w5,e1,e2,e3,e4,e5,e6,e7,e8⟩:=fin none _ rfl
       refine ⟨_,w5,e1,true,rfl,e3,?_⟩
       obtain ⟨d',s3,g1,g2,F6,O6,μ6,ft6,g3⟩:=CC hk4 e7 e8.le e8.nt e8.sr
       refine ⟨F6,O6,μ6,ft6,.ready,none,s3,by simpa using e2,e4.step g3.fr,fun b hb=>g3.fr.Bw b (e5 b hb),fun b hb=>⟨(e6 b hb).1,(e6 b hb).2.step g3.fr⟩,⟨g3.ok,g3.le,g3.nt,g3.sr,e8.fr.trans g3.fr⟩,.inl ⟨rfl,rfl,d',g1,?_⟩⟩
       rw [← hsN];exact g2
      | ret=>
       simp only [Ks.at] at hk4
       obtain ⟨w5,e1,e2,e3,e4,e5,e6,e7,e8⟩:=fin (some .ret) _ rfl
       exact ⟨_,w5,e1,false,rfl,e3,F4,O4,μ4,ft4,.done,some .ret,JY.back s2,by simpa using e2,e4,e5,e6,e8,.inr ⟨rfl,rfl,.ret,.ret,rfl,.inl ⟨rfl,rfl⟩,fun _ _ _=>hk4⟩⟩
      | exit i=>
       simp only [Ks.at] at hk4
       obtain ⟨w5,e1,e2,e3,e4,e5,e6,e7,e8⟩:=fin (some (.exit i)) _ rfl
       exact ⟨_,w5,e1,false,rfl,e3,F4,O4,μ4,ft4,.done,some (.exit i),JY.back s2,by simpa using e2,e4,e5,e6,e8,.inr ⟨rfl,rfl,.exit i,.exit i,rfl,.inr ⟨i,rfl,rfl⟩,fun _ _ _=>hk4⟩⟩
      | goto i=>exact hk4.elim
      | panic l=>obtain ⟨_,_,_,h,_⟩:=hk4;cases h
      | outgrown=>exact hk4.elim
     | ret=>cases hk
     | exit i=>cases hk
     | goto i=>exact hk.elim
     | panic l=>obtain ⟨_,_,_,h,_⟩:=hk;cases h
     | outgrown=>exact hk.elim
    have mb:=ah7 xv xs hL cas (by rw [l8 hcx];exact ca1) W1 F1 μ us ?_ hh1.sr.hr.wf hh1.sr.hr.pos L J ah9 Ys hJ0
    ·refine ⟨L,[zR w.heap.size],W1,⟨.fn (.func c.f) ⟨us⟩,#[]++#[.func (.yield L) #[] #[]]⟩,W1,c.f,⟨.func (.yield L) ⟨[]⟩ ⟨[]⟩::us⟩,W1,run_enterLoop_outer _ _ _ _ _,?_,fun _ _=>trivial,?_,(fun h=>by cases h),CallsIn.mono mb ?_⟩
     ·simp [resolve,Gp,Deferred.ofValue]
      rfl
     ·have:=WC ⟨.func (.yield L) ⟨[]⟩ ⟨[]⟩::us⟩ W1
      simp only [invoke]
      simpa using this
     ·rintro e w' ⟨v,F',O',rfl,Fo,Oo,μo,fto,st,p,JY,j1,j2,j3,j4,j5,j6⟩
      have hL1:w.heap.size≤L:=by show w.heap.size≤w.heap.size+1;omega
      rcases j6 with ⟨rfl,rfl,d,d1,d2⟩ | ⟨_,rfl,cj,e,rfl,hce,hat⟩
      ·refine ⟨none,_,run_endLoop j1 (by simp),?_⟩
       obtain ⟨ra,_⟩:=He (r':={ DH with state:=.exhausted,pending:=none }) j1
       have hd:zA f.ef (GG f s.nt ks.n) d=some z:=d1
       rw [CD d2] at hd
       exact ⟨JY,Fo,Oo,μo,fto,j5.BC ra hL1 j2.2.1 j2.2.2,hd⟩
      ·refine ⟨some cj,_,run_endLoop j1 (by simp),?_⟩
       obtain ⟨ra,_⟩:=He (r':={ DH with state:=.exhausted,pending:=some cj }) j1
       have hhe:=j5.BC ra hL1 j2.2.1 j2.2.2
       rcases hce with ⟨rfl,rfl⟩ | ⟨i,rfl,rfl⟩
       ·exact wpIn_ret ⟨JY,Fo,Oo,μo,fto,hhe,hat _ _ _⟩
       ·exact wpIn_exit ⟨JY,Fo,Oo,μo,fto,hhe,hat _ _ _⟩
    ·have z9:Fr w F O μ (below m0) W1 F1 O1 ME:=hh.fr.trans gw.fr
     have QR:=ca2 UH
     exact ⟨QR.1,fun i hi=>(QR.2 i hi).mono (fun b hb=>z9.frozen hs.hr b hb) z9.Bw (fun _ h=>h.elim) (fun _ h=>h) fun _ h=>h.elim⟩
   ·cases h0
  ·cases h
 ·cases h
theorem agS {E:Env} {bM:Nat→List CT} {A:Ann} {z:R} {K0:Nat} (hE:∀ k,k≤K0→xZ E (bM k)) (hI:∀ k,k≤K0→∀ c,c∈A.it k→L0 E.P c) (a_:E.P.follows .mixedOrders=true):∀ (c:Code),ac5 E.P z (fun m k s ks=>den E bM A m c k s ks) c K0:=by
 intro c
 induction c with
 | skip=>
  intro m0 n0 ro k s ks h SC x5 ho hm w F O μ ft a fL hn hs
  exact wpIn_skip ⟨s,F,O,μ,ft,.refl ho hm hn hs,h⟩
 | label l=>
  intro m0 n0 ro k s ks h SC x5 ho hm w F O μ ft a fL hn hs
  exact wpIn_label ⟨s,F,O,μ,ft,.refl ho hm hn hs,h⟩
 | exit id=>
  intro m0 n0 ro k s ks h SC x5 ho hm w F O μ ft a fL hn hs
  exact wpIn_exit ⟨s,F,O,μ,ft,.refl ho hm hn hs,h⟩
 | ret=>
  intro m0 n0 ro k s ks h SC x5 ho hm w F O μ ft a fL hn hs
  exact wpIn_ret ⟨s,F,O,μ,ft,.refl ho hm hn hs,h⟩
 | goto l=>intro m0 n0 ro k s ks h;simp [den] at h
 | refuse l=>intro m0 n0 ro k s ks h;simp [den] at h
 | rangeFunc g ps x y ih1 ih2=>
  intro m0 n0 ro k s ks h SC x5 ho hm w F O μ ft a fL hn hs
  obtain ⟨ps⟩:=ps
  have hro:ro=none:=SC.resolve_right (by simp [wS])
  subst hro
  simp only [den] at h
  exact ac6 hI ih1 ih2 h x5 ho hm fL hn hs
 | region id ops draw=>
  intro m0 n0 ro k s ks h SC x5 ho hm w F O μ ft a fL hn hs
  obtain ⟨ops⟩:=ops
  cases draw with
  | false=>
   simp only [den] at h
   refine wpIn_region_list (Wt (hE k x5) h ho hm hn hs (fun s' a' w' F' O' bC b8 h1 h2=>⟨s',F',O',bC,b8,h2,h1⟩) fun v u s' a' w' F' O' bC b8 h1 hw h2 h3=>⟨s',F',O',bC,b8,h3,u,v,rfl,h1,hw,h2⟩)
  | true=>
   simp only [den] at h
   split at h
   ·unfold afb at h
    split at h
    ·split at h
     ·exact Yt (hE k x5) a_ h ho hm hn hs fun s' a' w' F' O' bC b8 h1 h2=>⟨s',F',O',bC,b8,h2,h1⟩
     ·cases h
    ·exact aa6 (hE k x5) a_ h ho hm hn hs fun s' a' w' F' O' bC b8 h1 h2=>⟨s',F',O',bC,b8,h2,h1⟩
   ·cases h
 | seq x y ihx ihy=>
  intro m0 n0 ro k s ks h SC x5 ho hm w F O μ ft a fL hn hs
  have aeC:wS (.seq x y)=true→wS x=true:=fun h=>by simp only [wS,Bool.and_eq_true] at h;exact h.1
  have aeD:wS (.seq x y)=true→wS y=true:=fun h=>by simp only [wS,Bool.and_eq_true] at h;exact h.2
  simp only [den] at h
  refine wpIn_seq ?_
  split at h
  ·rename_i f hf
   simp only [share] at h
   refine Code.wpIn_mono ?_ (ihx m0 n0 ro k s _ h (SC.imp id aeC) x5 ho hm fL hn hs)
   rintro e a' w' ⟨s',F',O',bC,b8,hh,hk⟩
   cases e with
   | normal=>
    obtain ⟨x,s2,h1,h2,F2,O2,Ic,Nz,h3⟩:=CC (w:=w') (F:=F') (O:=O') (μ:=bC) (ft:=b8) (a:=a') hk hh.ok hh.le hh.nt hh.sr
    have h2':instF s.nt f (e_ f.ef x)=some s2:=by rw [hn.1,← hh.nt.1];exact h2
    rw [CD h2'] at h1
    exact Code.wpIn_mono (IG.trans (hh.fr.trans h3.fr)) (ihy m0 n0 ro k s2 ks h1 (SC.imp id aeD) x5 h3.ok h3.le (Nat.le_trans fL hh.fr.size) h3.nt h3.sr)
   | _=>exact ⟨s',F',O',bC,b8,hh,hk⟩
  ·refine Code.wpIn_mono ?_ (ihx m0 n0 ro k s _ h (SC.imp id aeC) x5 ho hm fL hn hs)
   rintro e a' w' ⟨s',F',O',bC,b8,hh,hk⟩
   cases e with
   | normal=>exact Code.wpIn_mono (IG.trans hh.fr) (ihy m0 n0 ro k s' ks hk (SC.imp id aeD) x5 hh.ok hh.le (Nat.le_trans fL hh.fr.size) hh.nt hh.sr)
   | _=>exact ⟨s',F',O',bC,b8,hh,hk⟩
 | cond c x y ihx ihy=>
  intro m0 n0 ro k s ks h SC x5 ho hm w F O μ ft a fL hn hs
  have aeC:wS (.cond c x y)=true→wS x=true:=fun h=>by simp only [wS,Bool.and_eq_true] at h;exact h.1
  have aeD:wS (.cond c x y)=true→wS y=true:=fun h=>by simp only [wS,Bool.and_eq_true] at h;exact h.2
  simp only [den] at h
  split at h
  ·rename_i b hb
   have hv:=b9 hb hs
   simp only [TA.av,cN] at hv
   cases b with
   | true=>exact wpIn_cond_true hv.eR (ihx m0 n0 ro k s ks h (SC.imp id aeC) x5 ho hm fL hn hs)
   | false=>exact wpIn_cond_false hv.eR (ihy m0 n0 ro k s ks h (SC.imp id aeD) x5 ho hm fL hn hs)
  ·cases h
 | block id c ih=>
  intro m0 n0 ro k s ks h SC x5 ho hm w F O μ ft a fL hn hs
  simp only [den] at h
  refine wpIn_block (Code.wpIn_mono ?_ (ih m0 n0 ro k s _ h SC x5 ho hm fL hn hs))
  rintro e a' w' ⟨s',F',O',bC,b8,hh,hk⟩
  cases e with
  | exit cg=>
   simp only [Ks.at] at hk
   simp only [Exit.inBlock]
   split
   ·rename_i e
    subst e
    rw [Nat.beq_refl] at hk
    exact ⟨s',F',O',bC,b8,hh,hk⟩
   ·rename_i e
    rw [cl e] at hk
    exact ⟨s',F',O',bC,b8,hh,hk⟩
  | _=>exact ⟨s',F',O',bC,b8,hh,hk⟩
 | scope c ih=>
  intro m0 n0 ro k s ks h SC x5 ho hm w F O μ ft a fL hn hs
  simp only [den] at h
  refine Ih (Code.wpIn_mono ?_ (ih m0 n0 ro k s _ h SC x5 ho hm fL hn hs))
  rintro e a' w' ⟨s',F',O',bC,b8,hh,hk⟩
  cases e with
  | goto l=>exact hk.elim
  | _=>exact ⟨s',F',O',bC,b8,hh,hk⟩
 | loop c ih=>
  intro m0 n0 ro k s ks h SC x5 ho hm w F O μ ft a fL hn hs
  simp only [den] at h
  split at h
  ·rename_i f hf
   have key:∀ (k:Nat),k≤K0→∀ (x:Ad f.ef) (s':bQ),zA f.ef (iter k fun k' rec=>GG f s.nt fun s'=>den E bM A m0 c k' s' { ks with n:=Ek f m0 rec }) x=some z→instF s.nt f (e_ f.ef x)=some s'→s'.ok→m0≤s'.N→
     ∀ {w:World} {F O:Nat→Prop} {μ:Nat→Nat} {ft:Nat→Nat→Prop} {a:Act},n0.2≤w.heap.size→Rw n0 s' a→SR w F O μ (below s'.N) s'.st ft a→Bb ro E.P c (IG ks z w F O μ m0 n0) a w:=by
    intro k
    induction k with
    | zero=>
     intro _ x s' h1
     simp only [iter] at h1
     rw [yl] at h1
     cases h1
    | succ k ihk=>
     intro x5 x s' h1 h2 LF hm' w F O μ ft a aic hn' Ky
     simp only [iter] at h1
     rw [CD h2] at h1
     refine Bb.round (Code.wpIn_mono ?_ (ih m0 n0 ro k s' _ h1 SC (by omega) LF hm' aic hn' Ky))
     rintro e a' w' ⟨s2,F',O',bC,b8,hh,hk⟩
     cases e with
     | normal=>
      obtain ⟨x',s3,k1,k2,F2,O2,Ic,Nz,k3⟩:=CC (w:=w') (F:=F') (O:=O') (μ:=bC) (ft:=b8) (a:=a') hk hh.ok hh.le hh.nt hh.sr
      have k2':instF s.nt f (e_ f.ef x')=some s3:=by rw [hn.1,← hh.nt.1];exact k2
      exact Bb.mono (IG.trans (hh.fr.trans k3.fr)) (ihk (by omega) x' s3 k1 k2' k3.ok k3.le (Nat.le_trans aic hh.fr.size) k3.nt k3.sr)
     | _=>exact ⟨s2,F',O',bC,b8,hh,hk⟩
   obtain ⟨x,s',h1,h2,F',O',bC,b8,h3⟩:=CC h ho hm hn hs
   exact (Bb.mono (IG.trans h3.fr) (key k x5 x s' h1 h2 h3.ok h3.le fL h3.nt h3.sr)).wp
  ·cases h
end Go.Proofs.YtljfmaaadnoggaaGreatDoor.cX
