/- What code computes, as a function of states. No condition. -/
import Derived.Test.YtljfmaaadnoggaaGreatDoorWI
import Derived.Scope
set_option linter.unusedSimpArgs false
set_option linter.unusedVariables false
namespace Go.Proofs.YtljfmaaadnoggaaGreatDoor.cU
open Go Go.RowKit
variable {w w' vP:World} {F F' Am O O' ux:Nat→Prop} {μ bB jV:Nat→Nat} {K K' DQ:Nat→Prop} {ft b7:Nat→Nat→Prop} {P:Program} {R:Type}
def share {α β:Type} (x:α) (f:α→β):β:=f x
def iter {ts:List Ty} {R:Type} (k:Nat) (body:Nat→LQ ts (Option R)→LQ ts (Option R)):LQ ts (Option R):=match k with
 | 0=>WQ ts fun _=>none
 | k+1=>body k (iter k body)
structure Ann where
 loop:List (Nat×iY)
 join:List (Nat×iY)
 draw:List (Nat×List Nat×List (Nat×List Nat))
 it:Nat→List IT
def aeK:List (Nat×iY)→Nat→Option iY
 | [],_=>none
 | (i,f)::r,k=>match Nat.beq k i with
  | true=>some f
  | false=>aeK r k
def aeL:List (Nat×List Nat×List (Nat×List Nat))→Nat→Option (List Nat×List (Nat×List Nat))
 | [],_=>none
 | (i,f)::r,k=>match Nat.beq k i with
  | true=>some f
  | false=>aeL r k
def BA:Code→Option Nat
 | .region id _ _=>some id
 | .seq a b=>match BA a with
  | some i=>some i
  | none=>BA b
 | .cond _ a b=>match BA a with
  | some i=>some i
  | none=>BA b
 | .block _ c=>BA c
 | .loop c=>BA c
 | .scope c=>BA c
 | .rangeFunc _ _ c _=>BA c
 | _=>none
def abG (l:List (Nat×iY)) (c:Code):Option iY:=match BA c with
 | some i=>aeK l i
 | none=>none
structure Ks (R:Type) where
 n:bK→Option R
 x:Nat→bK→Option R
 r:bK→Option R
 p:TA→bK→Option R
inductive Place where
 | tm (t:Nat) (ty:Ty) (v:RV)
 | cell (id off:Nat) (ty:Ty) (v:RV)
 | du (id off:Nat)
 | adD (t:Nat)
def Ca (s:bK):Place→bK
 | .tm t ty v=>match look s.tm t,v.b with
  | .eQ,true=>⟨s.nt,s.N+1,(t,.ow s.N)::s.tm,cz s.H [(s.N,some (.row ty v []))]⟩
  | _,_=>s
 | .cell id off ty v=>match aR s.H id,v.b with
  | some (.box l),true=>match l.getD off .top with
   | .eQ=>⟨s.nt,s.N+1,s.tm,cz s.H [(id,some (.box (l.set off (.ow s.N)))),(s.N,some (.row ty v []))]⟩
   | _=>s
  | _,_=>s
 | .du id off=>match aR s.H id with
  | some (.box l)=>match l.getD off .top with
   | .ow j=>match aR s.H j with
    | some (.row ty v xs)=>⟨s.nt,s.N+1,s.tm,cz s.H [(id,some (.box (l.set off (.ow s.N)))),(s.N,some (.row ty v xs)),(j,none)]⟩
    | _=>s
   | _=>s
  | _=>s
 | .adD t=>match look s.tm t with
  | .ow j=>match aR s.H j with
   | some (.row ty v xs)=>⟨s.nt,s.N+1,(t,.ow s.N)::s.tm,cz s.H [(s.N,some (.row ty v xs)),(j,none)]⟩
   | _=>s
  | _=>s
def Ax (s:bK):List Place→bK
 | []=>s
 | p::r=>Ax (Ca s p) r
theorem aaa {s:bK} {a:Act} (ty:Ty) (v:RV) (hs:SR w F O μ (below s.N) s.st ft a):
  HR w F O (IC μ s.N 0) (below (s.N+1)) (s.st.H.c7 [(s.N,some (.row true (eR ty) 0 (bU v ty [])))]) ft∧Fr w F O μ (below s.N) w F O (IC μ s.N 0):=by
 have h:=Eu (N:=s.N) (aZ:=eR ty) (e:=bU v ty []) hs.hr (fun h=>absurd h (by simp [below]))
 have e:plus (below s.N) [s.N]=below (s.N+1):=Bo s.N 1
 rw [e] at h
 exact h
theorem HR.agw {H H':Hp} (hr:HR w F O μ K H ft) (h:∀ id b',H' id=some b'→∃ b,H id=some b∧(b'.eI=true→b.eI=true)∧∀ o,gO w F μ K (ft id) (μ id) o b→gO w F μ K (ft id) (μ id) o b'):HR w F O μ K H' ft:=by
 have lv:∀ id,H'.live id→H.live id:=fun id ⟨b',cd,hl⟩=>by
  obtain ⟨b,h1,h2,_⟩:=h id b' cd
  exact ⟨b,h1,h2 hl⟩
 refine { lt:=hr.lt,known:=fun id b' cd=>?_,di:=fun id b' cd hl=>?_,self:=fun id hl=>hr.self id (lv id hl),own:=fun id hl=>hr.own id (lv id hl),dj:=fun id b9 hl Bk=>hr.dj id b9 (lv id hl) (lv b9 Bk),xW:=hr.xW,wf:=hr.wf,p0:=hr.p0,pos:=hr.pos }
 ·obtain ⟨b,h1,_⟩:=h id b' cd
  exact hr.known id b h1
 ·obtain ⟨b,h1,h2,h3⟩:=h id b' cd
  obtain ⟨o,ho,hB⟩:=hr.di id b h1 (h2 hl)
  exact ⟨o,ho,h3 o hB⟩
theorem Wt {v:Bool} {j N n aZ:Nat} {u:Value} (hN:K N) (QS:(v=true∧n=0)∨μ N=μ j) (h:VR w F μ K (dd v j n aZ) u):VR w F μ K (dd v N n aZ) u:=by
 cases v with
 | false=>
  have e:μ N=μ j:=by rcases QS with ⟨h,_⟩ | h;cases h;exact h
  simp only [dd] at h ⊢
  cases h with
  | ms _ _ _ _ cap sz t bY hc hs fw=>rw [← e];exact .ms _ _ _ _ cap sz t hN hc (by rw [e];exact hs) fw
 | true=>
  simp only [dd] at h ⊢
  cases h with
  | vs _ _ _ cap sz t hn bY hc hs fw=>
   have e:μ N=μ j:=by rcases QS with ⟨_,h⟩ | h;exact absurd h hn;exact h
   rw [← e];exact .vs _ _ _ cap sz t hn hN hc (by rw [e];exact hs) fw
  | vO=>exact .vO _ _ _
theorem adE {s:bK} {a:Act} {j:Nat} {ty:Ty} {v:RV} {xs:List ty.dn} (hs:SR w F O μ (below s.N) s.st ft a) (hj:aR s.H j=some (.row ty v xs)):
  ∃ bB b7,HR w F O bB (below (s.N+1)) (s.st.H.c7 [(s.N,some (.row v.b (eR ty) xs.length (bU v ty xs))),(j,none)]) b7∧Fr w F O μ (below s.N) w F O bB∧
   ∀ u,VR w F bB (below (s.N+1)) (dd v.b j xs.length (eR ty)) u→VR w F bB (below (s.N+1)) (dd v.b s.N xs.length (eR ty)) u:=by
 have hH:s.st.H j=some (.row v.b (eR ty) xs.length (bU v ty xs)):=dz hj
 have hjN:j < s.N:=hs.hr.known j _ hH
 have eK:plus (below s.N) [s.N]=below (s.N+1):=Bo s.N 1
 have hKN:¬ below s.N s.N:=by simp [below]
 cases hl:(ju.row v.b (eR ty) xs.length (bU v ty xs)).eI with
 | true=>
  obtain ⟨o,ho,hB⟩:=hs.hr.di j _ hH hl
  have ic:s.st.H.live j:=⟨_,hH,hl⟩
  have aab:=hs.hr.self j ic
  have hO:=hs.hr.own j ic _ aab
  have hp:rN w w (μ j) o:=⟨rfl,rfl,rfl,Nat.le_refl _,hs.hr.lt j hjN,ho,fun _ _ _=>rfl,fun _ _=>rfl⟩
  obtain ⟨k1,k2⟩:=IE (M:=s.N) (L:=[j]) (S:=ft j) hs.hr hp (.inl hO) (fun h=>absurd h hKN) (fun x hx=>.inr ⟨j,.inr (by simp),ic,hx⟩) aab
   (fun id h1 h2 h3 h4=>h3 (by have:=hs.hr.dj id j h1 ic _ h4 aab;simp [this])) hB
  have eO:(fun x=>O x∨x=μ j)=O:=by
   funext x
   exact propext ⟨fun h=>by rcases h with h | h;exact h;rw [h];exact hO,.inl⟩
  rw [eO,eK] at k1
  rw [eO] at k2
  refine ⟨_,_,k1,k2,fun u hu=>Wt (by simp [below]) (.inr ?_) hu⟩
  rw [g0,ID (by omega)]
 | false=>
  have hv:v.b=true∧xs.length=0:=by
   cases ZR:v.b with
   | false=>rw [ZR] at hl;simp [ju.eI] at hl
   | true=>rw [ZR] at hl;simpa [ju.eI] using hl
  obtain ⟨k1,k2⟩:=Eu (N:=s.N) (aZ:=eR ty) (e:=bU v ty xs) hs.hr hKN
  rw [eK] at k1
  refine ⟨_,ft,k1.imp fun id b' cd=>?_,k2,fun u hu=>Wt (by simp [below]) (.inl hv) hu⟩
  simp only [Hp.c7] at cd ⊢
  by_cases e:id=s.N
  ·rw [if_pos e] at cd ⊢
   rw [hv.1,hv.2] at cd
   exact ⟨b',cd,eD.refl _⟩
  ·rw [if_neg e] at cd ⊢
   by_cases e2:id=j
   ·rw [if_pos e2] at cd;cases cd
   ·rw [if_neg e2] at cd
    exact ⟨b',cd,eD.refl _⟩
theorem P6 {s:bK} {a:Act} {j:Nat} {ty:Ty} {v:RV} {xs:List ty.dn} (ho:s.ok) (hs:SR w F O μ (below s.N) s.st ft a) (hj:aR s.H j=some (.row ty v xs)) {TY:List (Nat×TA)} {H':List (Nat×aW)}
  (iV:Sub s.H H' s.N) (hN:aR H' s.N=some (.row ty v xs)) (lu:∀ b,aR H' j=some b→b.TW=false) (htm:∀ t,look TY t=look s.tm t∨(look s.tm t=.ow j∧look TY t=.ow s.N))
  (hH:∀ id,id≠s.N→id≠j→aR H' id=aR s.H id∨∃ l off,aR s.H id=some (.box l)∧l.getD off .top=.ow j∧aR H' id=some (.box (l.set off (.ow s.N)))):
  bK.ok ⟨s.nt,s.N+1,TY,H'⟩∧s.N≤s.N+1∧s.nt=s.nt∧Sub s.H H' s.N∧∃ bB b7,SR w F O bB (below (s.N+1)) (bK.st ⟨s.nt,s.N+1,TY,H'⟩) b7 a∧Fr w F O μ (below s.N) w F O bB:=by
 obtain ⟨bB,b7,h1,h2,h3⟩:=adE hs hj
 have hjN:j < s.N:=hs.hr.known j _ (dz hj)
 have ej:(TA.ow j).av s.H=dd v.b j xs.length (eR ty):=by simp only [TA.av,hj,fj]
 have eN:(TA.ow s.N).av H'=dd v.b s.N xs.length (eR ty):=by simp only [TA.av,hN,fj]
 have stp:∀ {x u},VR w F μ (below s.N) x u→VR w F bB (below (s.N+1)) x u:=fun hx=>hx.step hs.hr h2 fun id (h:id < s.N)=>(by show id < s.N+1;omega)
 refine ⟨⟨fun t=>?_,fun id l hl=>?_⟩,Nat.le_succ _,rfl,iV,bB,b7,⟨h1.agw fun id b' hb=>?_,hs.nt,fun t=>?_,hs.df⟩,h2⟩
 ·show (look TY t).wf H' (s.N+1)
  rcases htm t with e | ⟨_,e⟩
  ·rw [e];exact (iX iV (Nat.le_succ _) _ (ho.tm t)).2
  ·rw [e];simp only [TA.wf];omega
 ·have hl:aR H' id=some l:=hl
  by_cases e:id=s.N
  ·rw [e,hN] at hl;cases hl;simp only [aW.refs,gQ]
  ·by_cases e2:id=j
   ·subst e2
    have:=lu _ hl
    cases l with
    | bY=>simp only [aW.refs,gQ]
    | _=>cases this
   ·rcases hH id e e2 with h | ⟨l0,off,q3,q4,q5⟩
    ·rw [h] at hl;exact (g7 iV (Nat.le_succ _) _ (ho.H id _ hl)).2
    ·rw [q5] at hl
     cases hl
     have hw:=(g7 iV (Nat.le_succ s.N) _ (show gQ s.H s.N l0 from ho.H id _ q3)).2
     refine cZ.2 fun x hx=>?_
     rcases List.mem_or_eq_of_mem_set hx with h | h
     ·exact cZ.1 hw x h
     ·rw [h];simp only [TA.wf];omega
 ·obtain ⟨c,hc,hv,rfl⟩:=gP hb
  by_cases e:id=s.N
  ·subst e
   rw [hN] at hc
   cases hc
   exact ⟨_,by simp only [Hp.c7,if_true];rfl,fun h=>h,fun o h=>h⟩
  ·by_cases e2:id=j
   ·subst e2;have:=lu _ hc;rw [this] at hv;cases hv
   ·have eu:(s.st.H.c7 [(s.N,some (.row v.b (eR ty) xs.length (bU v ty xs))),(j,none)]) id=s.st.H id:=by simp only [Hp.c7,if_neg e,if_neg e2]
    rw [eu]
    rcases hH id e e2 with h | ⟨l0,off,q3,q4,q5⟩
    ·rw [h] at hc
     refine ⟨_,dz hc hv,?_⟩
     rw [show (bK.H ⟨s.nt,s.N+1,TY,H'⟩)=H' from rfl,o_ iV (ho.H id _ hc)]
     exact ⟨fun h=>h,fun o h=>h⟩
    ·rw [q5] at hc
     cases hc
     refine ⟨_,dz q3,fun _=>rfl,fun o ⟨cs,t,m1,m2,m3,m4⟩=>⟨cs,t,m1,m2,?_,fun k hk=>?_⟩⟩
     ·rw [bE] at m3 ⊢;simpa using m3
     ·rw [bE] at hk
      have S_:k < l0.length:=by simpa using hk
      have m5:=m4 k (by rw [bE];exact S_)
      rw [dy _ _ _ S_] at m5
      rw [dy _ _ _ hk]
      show VR w F bB _ (((l0.set off (.ow s.N)).getD k .top).av H') _
      by_cases e3:off=k
      ·subst e3
       have e4:(l0.set off (.ow s.N)).getD off .top=.ow s.N:=by simp [List.getD,S_]
       rw [q4,ej] at m5
       rw [e4,eN]
       exact h3 _ m5
      ·have e4:(l0.set off (.ow s.N)).getD k .top=l0.getD k .top:=by simp [List.getD,List.getElem?_set_ne e3]
       rw [e4,(iX iV (Nat.le_refl _) _ (Bs (show gQ s.H s.N l0 from ho.H id _ q3) k)).1]
       exact m5
 ·show VR w F _ _ ((look TY t).av H') _
  have hv:=hs.tm t
  rcases htm t with e | ⟨e0,e⟩
  ·rw [e,(iX iV (Nat.le_refl _) _ (ho.tm t)).1]
   exact stp hv
  ·rw [e,eN]
   have J_:VR w F μ (below s.N) ((look s.tm t).av s.H) (a.tmps.getD t undef):=hv
   rw [e0,ej] at J_
   exact h3 _ (stp J_)
theorem aac {s:bK} {a:Act} (p:Place) (ho:s.ok) (hs:SR w F O μ (below s.N) s.st ft a):(Ca s p).ok∧s.N≤(Ca s p).N∧(Ca s p).nt=s.nt∧
  Sub s.H (Ca s p).H s.N∧∃ bB b7,SR w F O bB (below (Ca s p).N) (Ca s p).st b7 a∧Fr w F O μ (below s.N) w F O bB:=by
 have same:s.ok∧s.N≤s.N∧s.nt=s.nt∧Sub s.H s.H s.N∧∃ bB b7,SR w F O bB (below s.N) s.st b7 a∧Fr w F O μ (below s.N) w F O bB:=⟨ho,Nat.le_refl _,rfl,Sub.refl _ _,μ,ft,hs,Fr.refl _ _ _ _ _⟩
 have key:∀ (ty:Ty) (v:RV) (TY:List (Nat×TA)) (H':List (Nat×aW)),v.b=true→Sub s.H H' s.N→aR H' s.N=some (.row ty v [])→(∀ t,look TY t=look s.tm t∨(look s.tm t=.eQ∧look TY t=.ow s.N))→
   (∀ id,id≠s.N→aR H' id=aR s.H id∨∃ l off,aR s.H id=some (.box l)∧l.getD off .top=.eQ∧aR H' id=some (.box (l.set off (.ow s.N))))→
   bK.ok ⟨s.nt,s.N+1,TY,H'⟩∧s.N≤s.N+1∧s.nt=s.nt∧Sub s.H H' s.N∧∃ bB b7,SR w F O bB (below (s.N+1)) (bK.st ⟨s.nt,s.N+1,TY,H'⟩) b7 a∧Fr w F O μ (below s.N) w F O bB:=by
  intro ty v TY H' ZR iV hN htm hH
  obtain ⟨h1,h2⟩:=aaa (s:=s) (a:=a) ty v hs
  have Wu:∀ {w F bB K' v},VR w F bB K' .eQ v→VR w F bB K' ((TA.ow s.N).av H') v:=fun {w F bB K' v} hv=>by
   rw [hv.oD]
   simp only [TA.av,hN,fj,List.length_nil,ZR,dd]
   exact .vO _ _ _
  have adF:∀ {bB K' v},VR w F bB K' .eQ v→VR w F bB K' ((TA.ow s.N).av H') v:=fun {bB K' v} hv=>Wu hv
  have stp:∀ {x v},VR w F μ (below s.N) x v→VR w F (IC μ s.N 0) (below (s.N+1)) x v:=fun hx=>hx.step hs.hr h2 fun id (h:id < s.N)=>(by show id < s.N+1;omega)
  refine ⟨⟨fun t=>?_,fun id l hl=>?_⟩,Nat.le_succ _,rfl,iV,_,ft,⟨h1.imp fun id b' hb=>?_,hs.nt,fun t=>?_,hs.df⟩,h2⟩
  ·show (look TY t).wf H' (s.N+1)
   rcases htm t with e | ⟨_,e⟩
   ·rw [e];exact (iX iV (Nat.le_succ _) _ (ho.tm t)).2
   ·rw [e];simp only [TA.wf];omega
  ·have hl:aR H' id=some l:=hl
   by_cases e:id=s.N
   ·rw [e,hN] at hl;cases hl;simp only [aW.refs,gQ]
   ·rcases hH id e with h | ⟨l0,off,h3,h4,h5⟩
    ·rw [h] at hl;exact (g7 iV (Nat.le_succ _) _ (ho.H id _ hl)).2
    ·rw [h5] at hl
     cases hl
     have hw:=(g7 iV (Nat.le_succ s.N) _ (show gQ s.H s.N l0 from ho.H id _ h3)).2
     refine cZ.2 fun x hx=>?_
     rcases List.mem_or_eq_of_mem_set hx with h | h
     ·exact cZ.1 hw x h
     ·rw [h];simp only [TA.wf];omega
  ·obtain ⟨c,hc,hv,rfl⟩:=gP hb
   by_cases e:id=s.N
   ·subst e
    rw [hN] at hc
    cases hc
    refine ⟨_,by rw [Hp.Bj,if_pos rfl],?_⟩
    simp only [aW.di,ZR,List.length_nil]
    exact eD.refl _
   ·rw [Hp.Bj,if_neg e]
    rcases hH id e with h | ⟨l0,off,h3,h4,h5⟩
    ·rw [h] at hc
     refine ⟨_,dz hc hv,?_⟩
     rw [show (bK.H ⟨s.nt,s.N+1,TY,H'⟩)=H' from rfl,o_ iV (ho.H id _ hc)]
     exact eD.refl _
    ·rw [h5] at hc
     cases hc
     refine ⟨_,dz h3,?_⟩
     simp only [aW.di]
     refine SU (by rw [bE,bE];simp) fun k hk=>?_
     rw [bE] at hk
     have S_:k < l0.length:=by simpa using hk
     rw [dy _ _ _ S_,dy _ _ _ hk]
     intro w1 F1 Kj K1 v1 Jm
     by_cases e2:off=k
     ·subst e2
      have e3:(l0.set off (.ow s.N)).getD off .top=.ow s.N:=by simp [List.getD,S_]
      rw [h4] at Jm
      simp only [TA.av] at Jm
      show VR w1 F1 Kj K1 (((l0.set off (.ow s.N)).getD off .top).av H') v1
      rw [e3]
      exact Wu Jm
     ·have e3:(l0.set off (.ow s.N)).getD k .top=l0.getD k .top:=by simp [List.getD,List.getElem?_set_ne e2]
      show VR w1 F1 Kj K1 (((l0.set off (.ow s.N)).getD k .top).av H') v1
      rw [e3,(iX iV (Nat.le_refl _) _ (Bs (show gQ s.H s.N l0 from ho.H id _ h3) k)).1]
      exact Jm
  ·show VR w F _ _ ((look TY t).av H') _
   have hv:=hs.tm t
   rcases htm t with e | ⟨e0,e⟩
   ·rw [e,(iX iV (Nat.le_refl _) _ (ho.tm t)).1]
    exact stp hv
   ·rw [e]
    have J_:VR w F μ (below s.N) ((look s.tm t).av s.H) (a.tmps.getD t undef):=hv
    rw [e0] at J_
    simp only [TA.av] at J_
    exact adF (stp J_)
 cases p with
 | tm t ty v=>
  simp only [Ca]
  split
  ·rename_i h0 ZR
   refine key ty v _ _ ZR nD (by rw [rI,if_pos rfl]) (fun u=>?_) fun id e=>.inl (by rw [rI,if_neg e])
   simp only [look]
   cases e:Nat.beq u t with
   | true=>rw [Nat.eq_of_beq_eq_true e];exact .inr ⟨h0,rfl⟩
   | false=>exact .inl rfl
  ·exact same
 | cell p4 off ty v=>
  simp only [Ca]
  split
  ·rename_i l hl ZR
   split
   ·rename_i h0
    have o8:p4≠s.N:=fun e=>by
     have:=hs.hr.known p4 _ (dz hl)
     simp only [below] at this;omega
    refine key ty v _ _ ZR (fun id bY=>?_) ?_ (fun u=>.inl rfl) fun id e=>?_
    ·simp only [cz,aR]
     cases e:Nat.beq id p4 with
     | true=>rw [Nat.eq_of_beq_eq_true e,hl];rfl
     | false=>simp only [ca (show ¬ id=s.N by omega)]
    ·simp only [cz,aR,ca (show ¬ s.N=p4 from fun h=>o8 h.symm),Nat.beq_refl]
    ·simp only [cz,aR]
     cases e2:Nat.beq id p4 with
     | true=>rw [Nat.eq_of_beq_eq_true e2];exact .inr ⟨l,off,hl,h0,rfl⟩
     | false=>exact .inl (by simp only [ca e])
   ·exact same
  ·exact same
 | du p4 off=>
  simp only [Ca]
  split
  ·rename_i l hl
   split
   ·rename_i j h0
    split
    ·rename_i ty v xs hj
     have o8:p4≠s.N:=fun e=>by
      have:=hs.hr.known p4 _ (dz hl)
      simp only [below] at this;omega
     have hjN:j < s.N:=hs.hr.known j _ (dz hj)
     have Lj:p4≠j:=fun e=>by subst e;rw [hl] at hj;cases hj
     refine P6 ho hs hj (fun id bY=>?_) ?_ (fun b hb=>?_) (fun u=>.inl rfl) fun id e e2=>?_
     ·simp only [cz,aR]
      cases e:Nat.beq id p4 with
      | true=>rw [Nat.eq_of_beq_eq_true e,hl];rfl
      | false=>
       simp only [ca (show ¬ id=s.N by omega)]
       cases e3:Nat.beq id j with
       | true=>simp only [fj];rw [Nat.eq_of_beq_eq_true e3]
       | false=>rfl
     ·simp only [cz,aR,ca (show ¬ s.N=p4 from fun h=>o8 h.symm),Nat.beq_refl]
     ·simp only [cz,aR,ca (show ¬ j=p4 from fun h=>Lj h.symm),ca (show ¬ j=s.N by omega),Nat.beq_refl,Option.some.injEq] at hb
      rw [← hb];rfl
     ·simp only [cz,aR]
      cases e3:Nat.beq id p4 with
      | true=>rw [Nat.eq_of_beq_eq_true e3];exact .inr ⟨l,off,hl,h0,rfl⟩
      | false=>exact .inl (by simp only [ca e,ca e2])
    ·exact same
   ·exact same
  ·exact same
 | adD t=>
  simp only [Ca]
  split
  ·rename_i j h0
   split
   ·rename_i ty v xs hj
    have hjN:j < s.N:=hs.hr.known j _ (dz hj)
    refine P6 ho hs hj (fun id bY=>?_) ?_ (fun b hb=>?_) (fun u=>?_) fun id e e2=>?_
    ·simp only [cz,aR,ca (show ¬ id=s.N by omega)]
     cases e3:Nat.beq id j with
     | true=>simp only [fj];rw [Nat.eq_of_beq_eq_true e3]
     | false=>rfl
    ·simp only [cz,aR,Nat.beq_refl]
    ·simp only [cz,aR,ca (show ¬ j=s.N by omega),Nat.beq_refl,Option.some.injEq] at hb
     rw [← hb];rfl
    ·simp only [look]
     cases e:Nat.beq u t with
     | true=>rw [Nat.eq_of_beq_eq_true e];exact .inr ⟨h0,rfl⟩
     | false=>exact .inl rfl
    ·exact .inl (by simp only [cz,aR,ca e,ca e2])
   ·exact same
  ·exact same
theorem Jd {a:Act}:∀ (L:List Place) {s:bK} {μ:Nat→Nat} {ft:Nat→Nat→Prop},s.ok→SR w F O μ (below s.N) s.st ft a→(Ax s L).ok∧s.N≤(Ax s L).N∧(Ax s L).nt=s.nt∧
  Sub s.H (Ax s L).H s.N∧∃ bB b7,SR w F O bB (below (Ax s L).N) (Ax s L).st b7 a∧Fr w F O μ (below s.N) w F O bB
 | [],s,μ,ft,ho,hs=>⟨ho,Nat.le_refl _,rfl,Sub.refl _ _,μ,ft,hs,Fr.refl _ _ _ _ _⟩
 | p::r,s,μ,ft,ho,hs=>by
  obtain ⟨h1,h2,h3,h6,Kj,V2,h4,h5⟩:=aac p ho hs
  obtain ⟨k1,k2,k3,k6,FE,Lg,k4,k5⟩:=Jd r h1 h4
  exact ⟨k1,Nat.le_trans h2 k2,k3.trans h3,(fun id bY=>(k6 id (Nat.lt_of_lt_of_le bY h2)).trans (h6 id bY)),FE,Lg,k4,h5.trans (k5.Of fun id (bY:id < s.N)=>(show id < (Ca s p).N by omega))⟩
def Ec (m0:Nat) (cW:List Bp) (id:Nat):Nat→List uQ→List TA→List Place
 | off,.ow j::ps,.eQ::as=>match cW[j]? with
  | some (.row ty v)=>.cell id off ty v::Ec m0 cW id (off+1) ps as
  | _=>Ec m0 cW id (off+1) ps as
 | off,.ow j::ps,.ow i::as=>match Nat.ble m0 j&&Nat.blt i m0 with
  | true=>.du id off::Ec m0 cW id (off+1) ps as
  | false=>Ec m0 cW id (off+1) ps as
 | off,_::ps,_::as=>Ec m0 cW id (off+1) ps as
 | _,_,_=>[]
def acj (m0:Nat) (cW:List Bp) (H:List (Nat×aW)) (j id:Nat):List Place:=match cW[j]?,aR H id with
 | some (.box ps),some (.box l)=>Ec m0 cW id 0 ps l
 | _,_=>[]
def O5 (m0:Nat) (cW:List Bp) (s:bK):List (Nat×uQ)→List Place
 | []=>[]
 | (t,.ow j)::r=>match look s.tm t with
  | .eQ=>match cW[j]? with
   | some (.row ty v)=>.tm t ty v::O5 m0 cW s r
   | _=>O5 m0 cW s r
  | .ow i=>match Nat.ble m0 j&&Nat.blt i m0 with
   | true=>.adD t::O5 m0 cW s r
   | false=>O5 m0 cW s r
  | _=>O5 m0 cW s r
 | (t,.bp j _)::r=>match look s.tm t with
  | .bp id _=>acj m0 cW s.H j id++O5 m0 cW s r
  | _=>O5 m0 cW s r
 | _::r=>O5 m0 cW s r
def NT (m0:Nat) (cW:List Bp) (s:bK):Nat→List Place
 | 0=>[]
 | m+1=>acj m0 cW s.H m m++NT m0 cW s m
def aad (f:iY) (m0:Nat) (J:LQ f.dR (Option R)) (s:bK):Option R:=match adq (Ax s (NT m0 f.cW s m0++O5 m0 f.cW s f.Ym)) m0 f with
 | some ds=>match nw f.dR ds with
  | some x=>xy f.dR J x
  | none=>none
 | none=>none
def Cb (f:iY) (m0:Nat) (J:LQ f.dR (Option R)) (s:bK):Option R:=aad f m0 J (rK s (y9 s.H))
def Ed (f:iY) (nt:Nat) (X:bK→Option R):LQ f.dR (Option R):=WQ f.dR fun x=>match instF nt f (eG f.dR x) with
 | some s=>X s
 | none=>none
def Vp (ps:List Nat) (nt:Nat) (f:iY) (m0:Nat) (D1 D2:Nat→bK→Ks R→Option R) (ks:Ks R) (ds:List cE) (J:LQ f.dR (Option R)):LQ f.dR (Option R):=
 Ed f nt fun s'=>D1 s'.N (s'.args ps ds) ⟨fun s1=>D2 s'.N s1 ⟨fun s2=>Cb f m0 J (s'.back s2),fun i s2=>ks.x i (s'.back s2),fun s2=>ks.r (s'.back s2),fun _ _=>none⟩,fun _ _=>none,fun _=>none,fun _ _=>none⟩
def Vq (E:Env) (A:Ann) (m0:Nat) (ok:Bool) (ps:List Nat) (D1 D2:Nat→bK→Ks R→Option R) (fr:Option iY) (k:Nat) (s:bK) (ks:Ks R):TA→Option R
 | .fn (.func fi) [] zA=>match fr,ok&&ps.all (fun t=>t.blt s.nt) with
  | some f,true=>RB s.H fi zA (A.it k) fun c xs=>match Nat.beq ps.length c.dR.length with
   | true=>Cb f m0 (BE (fun y=>Vp ps s.nt f m0 D1 D2 ks (eG c.dR y)) (Ed f s.nt ks.n) xs) s
   | false=>none
  | _,_=>none
 | _=>none
def ack (E:Env) (bH:List CT) (ops:List Oper) (B:Array Nat) (eC:List (Nat×List Nat)) (s:bK) (κ:bK→Option R):Option R:=match NU ops with
 | some _=>match eC with
  | (_,[id])::_=>RC E bH ops B id s κ
  | _=>none
 | none=>Vm E bH ops B eC s κ
def den (E:Env) (bH:Nat→List CT) (A:Ann):Nat→Code→Nat→bK→Ks R→Option R
 | m0,.skip,_,s,ks=>ks.n s
 | m0,.region _ ⟨ops⟩ false,k,s,ks=>I8 E (bH k) ⟨ops⟩ ops s ks.n ks.p
 | m0,.region id ⟨ops⟩ true,k,s,ks=>match aeL A.draw id with
  | some (B,eC)=>ack E (bH k) ops ⟨B⟩ eC s ks.n
  | none=>none
 | m0,.seq x y,k,s,ks=>match abG A.join y with
  | some f=>share (Ed f s.nt fun s'=>den E bH A m0 y k s' ks) fun J=>den E bH A m0 x k s { ks with n:=Cb f m0 J }
  | none=>den E bH A m0 x k s { ks with n:=fun s'=>den E bH A m0 y k s' ks }
 | m0,.cond c x y,k,s,ks=>match s.val c with
  | .d ⟨.bool,b⟩=>cond b (den E bH A m0 x k s ks) (den E bH A m0 y k s ks)
  | _=>none
 | m0,.block id c,k,s,ks=>den E bH A m0 c k s { ks with x:=fun i s'=>match Nat.beq i id with
  | true=>ks.n s'
  | false=>ks.x i s' }
 | m0,.loop c,k,s,ks=>match abG A.loop c with
  | some f=>Cb f m0 (iter k fun k' rec=>Ed f s.nt fun s'=>den E bH A m0 c k' s' { ks with n:=Cb f m0 rec }) s
  | none=>none
 | m0,.exit id,_,s,ks=>ks.x id s
 | m0,.ret,_,s,ks=>ks.r s
 | m0,.scope c,k,s,ks=>den E bH A m0 c k s ks
 | m0,.label _,_,s,ks=>ks.n s
 | m0,.rangeFunc g ⟨ps⟩ x y,k,s,ks=>Vq E A m0 (uR x&&uR y) ps (fun m s ks=>den E bH A m x k s ks) (fun m s ks=>den E bH A m y k s ks) (abG A.loop x) k s ks (s.val g)
 | _,_,_,_,_=>none
def Ks.at (ks:Ks R) (z:R) (e:Exit) (s':bK) (w':World) (F':Nat→Prop) (bB:Nat→Nat):Prop:=match e with
 | .normal=>ks.n s'=some z
 | .exit i=>ks.x i s'=some z
 | .ret=>ks.r s'=some z
 | .panic l=>∃ u v,l=[{ v:=u,recovered:=false }]∧ks.p v s'=some z∧v.wf s'.H s'.N∧VR w' F' bB (below s'.N) (v.av s'.H) u
 | _=>False
def Gc (ks:Ks R) (z:R) (w:World) (F O:Nat→Prop) (μ:Nat→Nat) (m0:Nat) (nt:Nat×Nat):Exit→Act→World→Prop:=fun e a' w'=>
 ∃ s' F' O' bB b7,x5 w F O μ m0 nt s' a' w' F' O' bB b7∧ks.at z e s' w' F' bB
theorem Gc.trans {ks:Ks R} {z:R} {m0:Nat} {nt:Nat×Nat} (hf:Fr w F O μ (below m0) w' F' O' bB) (e:Exit) (a:Act) (vP:World) (h:Gc ks z w' F' O' bB m0 nt e a vP):Gc ks z w F O μ m0 nt e a vP:=by
 obtain ⟨s',Am,ux,jV,b7,h1,h2⟩:=h
 exact ⟨s',Am,ux,jV,b7,h1.trans hf,h2⟩
theorem aae {f:iY} {m0:Nat} {J:LQ f.dR (Option R)} {s:bK} {z:R} {a:Act} (h:aad f m0 J s=some z) (ho:s.ok) (hm:m0≤s.N) {n0:Nat×Nat} (hn:OY n0 s a) (hs:SR w F O μ (below s.N) s.st ft a):
  ∃ x s',xy f.dR J x=some z∧instF s.nt f (eG f.dR x)=some s'∧∃ F' O' bB b7,x5 w F O μ m0 n0 s' a w F' O' bB b7:=by
 unfold aad at h
 split at h
 ·rename_i ds rR
  split at h
  ·rename_i x hx
   obtain ⟨v1,v2,v3,_,Kj,V2,v4,v5⟩:=Jd (NT m0 f.cW s m0++O5 m0 f.cW s f.Ym) ho hs
   obtain ⟨s',h1,h2,h3,h4,h5⟩:=ZS rR (Nat.le_trans hm v2)
   obtain ⟨F',O',bB,b7,k1,k2⟩:=h5 v4
   exact ⟨x,s',h,by rw [kK hx,← v3];exact h1,F',O',bB,b7,h2,h4,hn.to (h3.trans v3),k1,(v5.Of fun id (bY:id < m0)=>(show id < s.N by omega)).trans k2⟩
  ·cases h
 ·cases h
theorem Ay {f:iY} {m0:Nat} {J:LQ f.dR (Option R)} {s:bK} {z:R} {a:Act} (h:Cb f m0 J s=some z) (ho:s.ok) (hm:m0≤s.N) {n0:Nat×Nat} (hn:OY n0 s a) (hs:SR w F O μ (below s.N) s.st ft a):
  ∃ x s',xy f.dR J x=some z∧instF s.nt f (eG f.dR x)=some s'∧∃ F' O' bB b7,x5 w F O μ m0 n0 s' a w F' O' bB b7:=by
 obtain ⟨y1,y2,y3,_,V2,y4⟩:=IY (y9 s.H) ho hs
 unfold Cb at h
 generalize rK s (y9 s.H)=s0 at h y1 y2 y3 y4
 rw [← y2] at y4
 have:=aae h y1 (by rw [y2];exact hm) (hn.to y3) y4
 rw [y3] at this
 exact this
theorem Az {f:iY} {nt:Nat} {X:bK→Option R} {x:x4 f.dR} {s':bK} (h:instF nt f (eG f.dR x)=some s'):xy f.dR (Ed f nt X) x=X s':=by
 unfold Ed
 rw [wj,h]
def zc (r:Option Nat) (P:Program) (c:Code) (Q:Exit→Act→World→Prop) (a:Act) (w:World):Prop:=
 ∀ (b:Frame) (k:List Item) (cs:List Frame),b.roundOf=r→∃ e a' w',Q e a' w'∧ArrivesIn (Machine.fenced P (Wr r)) P (lone (b.atR a (.code c::.inLoop c::k)) cs w) b k cs e a' w'
theorem zd {r:Option Nat} {m:Machine}:m.fenced P (Wr r):=fenced_wide P m
theorem zc.wp {r:Option Nat} {c:Code} {Q:Exit→Act→World→Prop} {a:Act} (h:zc r P c Q a w):(Code.loop c).wpIn (Wr r) 0 P Q a w:=by
 intro b k cs hb _ _
 obtain ⟨e,a',w',hq,Hz⟩:=h b k cs hb
 exact ⟨e,a',w',hq,.of_steps (.one zd stepR_loop) Hz⟩
theorem zc.round {r:Option Nat} {c:Code} {Q:Exit→Act→World→Prop} {a:Act} (h:c.wpIn (Wr r) 0 P (Exit.then (zc r P c Q) Q) a w):zc r P c Q a w:=by
 intro b k cs hb
 obtain ⟨e,NV,NW,hq,Hz⟩:=h b (.inLoop c::k) cs hb trivial (room_wide _)
 cases e with
 | normal=>
  obtain ⟨agx,agy,agz,aeM,abH⟩:=hq b k cs hb
  exact ⟨agx,agy,agz,aeM,.of_steps (StepsIn.trans Hz (.one zd stepR_inLoop)) abH⟩
 | exit id=>exact ⟨_,NV,NW,hq,.pass (x:=.inLoop c) rfl (fun _ _=>.inl (by simp)) Hz⟩
 | goto l=>exact ⟨_,NV,NW,hq,.pass (x:=.inLoop c) rfl (fun _ _=>.inl (by simp)) Hz⟩
 | ret=>exact ⟨_,NV,NW,hq,.pass (x:=.inLoop c) rfl (fun _ _=>.inl (by simp)) Hz⟩
 | panic ch=>exact ⟨_,NV,NW,hq,.pass (x:=.inLoop c) rfl (fun _ _=>.inl (by simp)) Hz⟩
 | outgrown=>exact ⟨_,NV,NW,hq,.pass (x:=.inLoop c) rfl (fun _ _=>.inl (by simp)) Hz⟩
theorem zc.mono {r:Option Nat} {c:Code} {Q Q':Exit→Act→World→Prop} {a:Act} (hq:∀ e a w,Q e a w→Q' e a w) (h:zc r P c Q a w):zc r P c Q' a w:=fun b k cs hb=>
 let ⟨e,a',w',q,r⟩:=h b k cs hb;⟨e,a',w',hq _ _ _ q,r⟩
theorem uE {b:Frame} {a:Act} {k:List Item} {cs:List Frame} {c:Code}:step P (lone (b.atR a (.code (.scope c)::k)) cs w)=.next (lone (b.atR a (.code c::.inScope c::k)) cs w):=
 step_lone_go (by simp [stepG,stepG.exec,Frame.atR])
theorem O7 {b:Frame} {a:Act} {k:List Item} {cs:List Frame} {c:Code}:step P (lone (b.atR a (.inScope c::k)) cs w)=.next (lone (b.atR a k) cs w):=
 step_lone_go (by simp [stepG,stepG.exec,Frame.atR])
theorem FH {r:Option Nat} {c:Code} {Q:Exit→Act→World→Prop} {a:Act} (h:c.wpIn (Wr r) 0 P (Exit.noGoto Q) a w):(Code.scope c).wpIn (Wr r) 0 P Q a w:=by
 intro b k cs hb h1 h2
 obtain ⟨e,NV,NW,hq,Hz⟩:=h b (.inScope c::k) cs hb h1 h2
 have e1:∀ i,exitTo i (.inScope c::k)=exitTo i k:=fun i=>by simp [exitTo]
 cases e with
 | normal=>exact ⟨.normal,NV,NW,hq,.head zd uE (StepsIn.trans Hz (.one zd O7))⟩
 | exit id=>exact ⟨.exit id,NV,NW,hq,.of_steps (.one zd uE) ⟨fun k' hk=>Hz.1 k' (by rw [e1];exact hk),fun hr hk=>Hz.2 hr (by rw [e1];exact hk)⟩⟩
 | goto l=>exact hq.elim
 | ret=>exact ⟨_,NV,NW,hq,.of_steps (.one zd uE) Hz⟩
 | panic ch=>exact ⟨_,NV,NW,hq,.of_steps (.one zd uE) Hz⟩
 | outgrown=>exact ⟨_,NV,NW,hq,.of_steps (.one zd uE) Hz⟩
def aaf (P:Program) (z:R) (D:Nat→Nat→bK→Ks R→Option R) (c:Code) (K0:Nat):Prop:=
 ∀ (m0:Nat) (n0:Nat×Nat) (ro:Option Nat) (k:Nat) (s:bK) (ks:Ks R),D m0 k s ks=some z→(ro=none∨uR c=true)→k≤K0→s.ok→m0≤s.N→
  ∀ {w:World} {F O:Nat→Prop} {μ:Nat→Nat} {ft:Nat→Nat→Prop} {a:Act},n0.2≤w.heap.size→OY n0 s a→SR w F O μ (below s.N) s.st ft a→c.wpIn (Wr ro) 0 P (Gc ks z w F O μ m0 n0) a w
theorem RD (w:World) (o1 o2:Obj):Gw w ((w.alloc o1).alloc o2) where
 os:=rfl
 tape:=rfl
 output:=rfl
 size:=by simp;omega
 same:=fun b hb=>by rw [Below.heap_alloc _ _ _ (by simp;omega),Below.heap_alloc _ _ _ hb]
theorem HR.more {H:Hp} (h:HR w F O μ K H ft) (hF:∀ b,F b→F' b) (hw:∀ b,F' b→b < w.heap.size) (hO:∀ b,O b→¬ F' b):HR w F' O μ K H ft where
 lt:=h.lt
 known:=h.known
 di:=fun id b hb hl=>by
  obtain ⟨o,ho,hB⟩:=h.di id b hb hl
  exact ⟨o,ho,hB.mono (fun _ _=>rfl) hF (fun _ _=>rfl) (fun _ h=>h) (fun _ _=>rfl) fun _ _ _=>rfl⟩
 self:=h.self
 own:=h.own
 dj:=h.dj
 xW:=hO
 wf:=hw
 p0:=h.p0
 pos:=h.pos.mono (Nat.le_refl _) hF fun _ _=>rfl
theorem aag {E:Env} {A:Ann} {z:R} {K0 m0:Nat} {n0:Nat×Nat} {D1 D2:Nat→Nat→bK→Ks R→Option R} {x y:Code} {ps:List Nat} {g:Operand} {k:Nat} {s:bK} {ks:Ks R} {fr:Option iY} {a:Act} (hI:∀ k,k≤K0→∀ c,c∈A.it k→JE E.P c)
  (ih1:aaf E.P z D1 x K0) (ih2:aaf E.P z D2 y K0) (h:Vq E A m0 (uR x&&uR y) ps (fun m s ks=>D1 m k s ks) (fun m s ks=>D2 m k s ks) fr k s ks (s.val g)=some z)
  (wv:k≤K0) (ho:s.ok) (hm:m0≤s.N) (fw:n0.2≤w.heap.size) (hn:OY n0 s a) (hs:SR w F O μ (below s.N) s.st ft a):
  (Code.rangeFunc g ⟨ps⟩ x y).wpIn (Wr none) 0 E.P (Gc ks z w F O μ m0 n0) a w:=by
 unfold Vq at h
 split at h
 ·rename_i fi zA hg
  split at h
  ·rename_i f Du
   simp only [Bool.and_eq_true] at Du
   obtain ⟨⟨hx,hy⟩,hps⟩:=Du
   obtain ⟨c,ds,xv,xs,hc,hf,he,hcx,hL,h0⟩:=Lq h
   clear h
   split at h0
   ·rename_i hlen
    have hlen:=Nat.eq_of_beq_eq_true hlen
    subst hf
    obtain ⟨d,s',h1,h2,F1,O1,Kj,V2,hh⟩:=Ay h0 ho hm hn hs
    obtain ⟨TI,aeN⟩:=hI k wv c hc
    have hgv:=b8 hg hs
    simp only [TA.av,dJ] at hgv
    obtain ⟨v0,us,F_,Yn,RR⟩:=hgv.J7
    have Yn:=Yn.gY
    subst Yn
    obtain ⟨cas,ca1,ca2⟩:=NX he
    let adG:Loop:={ state:=.ready,pending:=none,fn:=0,tmps:=a.tmps,params:=⟨ps⟩,assign:=x,body:=y,defers:=w.heap.size }
    let aM:Act:={ a with defers:=[xK w.heap.size]++a.defers }
    refine wpIn_rangeFunc fun fn _=>?_
    let BB:Loop:={ adG with fn:=fn }
    let W1:World:=(w.alloc (.deferred (some []))).alloc (.loop BB)
    have gw:Gw w W1:=RD w _ _
    have hW1:W1.heap.size=w.heap.size+2:=by simp [W1]
    have agA:W1.heap[w.heap.size+1]?=some (.loop BB):=by
     have:=World.alloc_heap_new (w.alloc (.deferred (some []))) (.loop BB)
     simpa [W1] using this
    have aeO:W1.heap[w.heap.size]?=some (.deferred (some [])):=by
     have e:W1.heap[w.heap.size]?=(w.alloc (.deferred (some []))).heap[w.heap.size]?:=Below.heap_alloc _ _ _ (by simp)
     rw [e];exact World.alloc_heap_new w _
    have hdf:uO W1 F1 O1 aM.defers:=by
     refine ⟨List.nodup_cons.2 ⟨fun Kw=>?_,hh.sr.df.nd⟩,fun d' Nh=>?_⟩
     ·obtain ⟨b,e1,_,_,e4⟩:=hh.sr.df.all _ Kw
      have e:w.heap.size=b:=by simpa [xK] using e1
      have:=(Array.getElem?_eq_some_iff.1 e4).1
      omega
     ·rcases List.mem_cons.1 Nh with e | e
      ·exact ⟨w.heap.size,e,fun h=>by have:=hh.sr.hr.p0 _ h;omega,fun h=>by have:=hh.sr.hr.wf _ h;omega,aeO⟩
      ·obtain ⟨b,e1,e2,e3,e4⟩:=hh.sr.df.all _ e
       exact ⟨b,e1,e2,e3,by rw [gw.same b (Array.getElem?_eq_some_iff.1 e4).1];exact e4⟩
    have hmk:∀ b,xK b∈aM.defers→b < W1.heap.size:=fun b hb=>by
     obtain ⟨b',e1,_,_,e4⟩:=hdf.all _ hb
     have e:b=b':=by simpa [xK] using e1
     rw [e];exact (Array.getElem?_eq_some_iff.1 e4).1
    have agB:∀ {s1:bK},OY n0 s1 a→OY n0 s1 aM:=fun h=>⟨h.1,fun b hb=>by
     rcases List.mem_cons.1 hb with e | e
     ·have e:b=w.heap.size:=by simpa [xK] using e
      omega
     ·exact h.2 b e⟩
    have hh1:x5 w F O μ m0 n0 s' aM W1 F1 O1 Kj V2:=⟨hh.ok,hh.le,agB hh.nt,⟨hh.sr.hr.gw gw,hh.sr.nt,fun t=>(hh.sr.tm t).step hh.sr.hr gw.fr fun _ h=>h,hdf⟩,hh.fr.trans gw.fr⟩
    let L:Nat:=w.heap.size+1
    let body:x4 c.dR→LQ f.dR (Option R)→LQ f.dR (Option R):=fun q=>Vp ps s.nt f m0 (fun m s ks=>D1 m k s ks) (fun m s ks=>D2 m k s ks) ks (eG c.dR q)
    let done:LQ f.dR (Option R):=Ed f s.nt ks.n
    let J:List (x4 c.dR)→World→(Nat→Prop)→(Nat→Prop)→Prop:=fun ys w' Fi Oi=>∃ (Fo Oo:Nat→Prop) (Yp:Nat→Nat) (fto:Nat→Nat→Prop) (st:LoopState) (p:Option Code) (HA:bK),
     w'.heap[L]?=some (.loop { BB with state:=st,pending:=p })∧KC w' Fo Oo L∧(∀ b,Fi b→Fo b)∧(∀ b,Oi b→W1.heap.size≤b∧KC w' Fo Oo b)∧x5 w F O μ m0 n0 HA aM w' Fo Oo Yp fto∧
     ((st=.ready∧p=none∧∃ d,xy f.dR (BE body done ys) d=some z∧instF s.nt f (eG f.dR d)=some HA)∨
      (ys=[]∧st=.done∧∃ cj e,p=some cj∧((cj=.ret∧e=Exit.ret)∨∃ i,cj=.exit i∧e=Exit.exit i)∧(∀ (w':World) (F':Nat→Prop) (bB:Nat→Nat),ks.at z e HA w' F' bB)))
    have hJ0:J xs W1 F1 (fun _=>False):=
     ⟨F1,O1,Kj,V2,.ready,none,s',agA,⟨by rw [hW1];omega,fun h=>by have:=hh.sr.hr.wf _ h;omega,fun h=>by have:=hh.sr.hr.p0 _ h;omega⟩,fun _ h=>h,fun _ h=>h.elim,hh1,.inl ⟨rfl,rfl,d,h1,h2⟩⟩
    have aeP:XY J:=by
     rintro ys w1 w2 Fi Oi Fi' Oi' μi ag5 Ki ⟨Fo,Oo,Yp,fto,st,p,HA,j1,j2,j3,j4,j5,j6⟩ wf1 wf2 AA
     have hr:=j5.sr.hr
     have hL1:W1.heap.size≤w1.heap.size:=by have:=j2.1;rw [hW1];show w.heap.size+2≤_;have:w.heap.size+1 < w1.heap.size:=this;omega
     have noi:∀ b,Fo b∨Oo b→¬ Oi b:=fun b hb hi=>hb.elim (j4 b hi).2.2.1 (j4 b hi).2.2.2
     have lt1:∀ b,Fo b∨Oo b→b < w1.heap.size:=fun b hb=>hb.elim (hr.wf b) (hr.p0 b)
     have kp:Kp w1 w2 Fo Oo:=⟨AA.os,AA.tape,AA.output,AA.size,fun b hb=>AA.same b (lt1 b hb) (noi b hb),AA.shape⟩
     have hLi:¬ Oi L:=fun h=>by have:=(j4 L h).1;rw [hW1] at this;have:w.heap.size+2≤w.heap.size+1:=this;omega
     have fo':∀ b,(Fo b∨Fi' b)→Fo b∨w1.heap.size≤b∨Oi b:=fun b hb=>hb.elim .inl fun h=>(AA.Ha b h).elim (fun h=>.inl (j3 b h)) .inr
     have hOo:∀ b,Oo b→¬ (Fo b∨Fi' b):=fun b hb h=>by
      rcases fo' b h with h | h | h
      ·exact hr.xW b hb h
      ·have:=hr.p0 b hb;omega
      ·exact noi b (.inr hb) h
     have hwf:∀ b,(Fo b∨Fi' b)→b < w2.heap.size:=fun b hb=>hb.elim (fun h=>Nat.lt_of_lt_of_le (hr.wf b h) AA.size) (wf2.wf b)
     have Zq:HR w2 (fun b=>Fo b∨Fi' b) Oo Yp (below HA.N) HA.st.H fto:=(hr.kp kp).more (fun b h=>.inl h) hwf hOo
     refine ⟨fun b=>Fo b∨Fi' b,Oo,Yp,fto,st,p,HA,by rw [AA.same L j2.1 hLi];exact j1,⟨Nat.lt_of_lt_of_le j2.1 AA.size,fun h=>?_,j2.2.2⟩,fun b h=>.inr h,fun b hb=>?_,⟨j5.ok,j5.le,j5.nt,⟨Zq,j5.sr.nt,fun t=>?_,?_⟩,?_⟩,j6⟩
     ·rcases fo' L h with h | h | h
      ·exact j2.2.1 h
      ·have:=j2.1;omega
      ·exact hLi h
     ·have OA:=wf2.p0 b hb
      rcases AA.DP b hb with h | h
      ·obtain ⟨m1,m2,m3,m4⟩:=j4 b h
       exact ⟨m1,OA,fun h=>h.elim m3 (wf2.xW b hb),m4⟩
      ·exact ⟨Nat.le_trans hL1 h,OA,fun h'=>h'.elim (fun h'=>by have:=hr.wf b h';omega) (wf2.xW b hb),fun h'=>by have:=hr.p0 b h';omega⟩
     ·exact ((j5.sr.tm t).kp hr kp).mono (fun _ _=>rfl) (fun _ h=>.inl h) (fun _ _=>rfl) (fun _ h=>h) fun _ _=>rfl
     ·refine ⟨j5.sr.df.nd,fun d' Nh=>?_⟩
      obtain ⟨b,e1,e2,e3,e4⟩:=j5.sr.df.all d' Nh
      have T8:b < w1.heap.size:=(Array.getElem?_eq_some_iff.1 e4).1
      have hbi:¬ Oi b:=fun h=>by have:=(j4 b h).1;have:=hmk b (e1▸Nh);omega
      refine ⟨b,e1,e2,fun h=>?_,by rw [AA.same b T8 hbi];exact e4⟩
      rcases fo' b h with h | h | h
      ·exact e3 h
      ·omega
      ·exact hbi h
     ·have dL:w.heap.size≤w1.heap.size:=by have:=hW1;omega
      refine { os:=AA.os.trans j5.fr.os,tape:=AA.tape.trans j5.fr.tape,output:=AA.output.trans j5.fr.output,size:=Nat.le_trans j5.fr.size AA.size,mu:=j5.fr.mu,zr:=fun b h=>.inl (j5.fr.zr b h),shape:=fun b hb=>(AA.shape b (by omega)).trans (j5.fr.shape b hb),same:=fun b hb hn=>(AA.same b (by omega) fun h=>by have:=(j4 b h).1;omega).trans (j5.fr.same b hb hn),DP:=j5.fr.DP,Ha:=fun b hb=>?_ }
      rcases fo' b hb with h | h | h
      ·exact j5.fr.Ha b h
      ·exact .inr (.inl (by omega))
      ·exact .inr (.inl (by have:=(j4 b h).1;omega))
    have Vr:NY E.P L c.dR J:=by
     rintro q r w1 Fi Oi μi vs ⟨Fo,Oo,Yp,fto,st,p,HA,j1,j2,j3,j4,j5,j6⟩ wf1 AM
     rcases j6 with ⟨rfl,rfl,d,d1,d2⟩ | ⟨ady,_⟩
     case inr=>cases ady
     have hvl:vs.length=ps.length:=by rw [← AM.1,List.length_map,Gd,hlen]
     refine ⟨fn,_,x,y,run_yield j1 (by simp [BB,adG,hvl]),?_⟩
     simp only [BB,adG]
     rw [abI]
     have hr:=j5.sr.hr
     have hsN:HA.nt=s.nt:=j5.nt.1.trans hn.1.symm
     have Ix:SR w1 Fo Oo Yp (below (HA.args ps (eG c.dR q)).N) (HA.args ps (eG c.dR q)).st fto { tmps:=(ps.zip vs).foldl (fun tmps (t,v)=>tmps.setIfInBounds t v) a.tmps,defers:=[] }:=by
      refine ⟨hr,?_,fun t=>?_,uO.nil⟩
      ·show ((ps.zip vs).foldl (fun tmps (t,v)=>tmps.setIfInBounds t v) a.tmps).size=HA.nt
       rw [NZ];exact j5.sr.nt
      ·refine Wv (nt:=HA.nt) (vs:=vs) ⟨by simpa using AM.1,fun i hi=>?_⟩ j5.sr.nt (by rw [hsN];exact hps) j5.sr.tm t
       exact ((AM.2 i hi).mono (fun _ _=>rfl) j3 (fun _ h=>h.elim) (fun _ h=>h.elim) fun _ h=>h.elim:VR w1 Fo Yp _ _ _)
     have adH:(HA.args ps (eG c.dR q)).ok:=⟨RF j5.ok.tm ps,j5.ok.H⟩
     have hd:xy f.dR (body q (BE body done r)) d=some z:=d1
     simp only [body,Vp] at hd
     rw [Az d2] at hd
     have hL1:w.heap.size≤L:=by show w.heap.size≤w.heap.size+1;omega
     refine roundIn_of_wpIn trivial (Code.wpIn_mono ?_ (ih1 HA.N (HA.nt,0) (some L) k _ _ hd (.inr hx) wv adH (Nat.le_refl _) (Nat.zero_le _) ⟨rfl,fun _ _=>Nat.zero_le _⟩ Ix))
     rintro e a1 w2 ⟨s1,F2,O2,FE,Lg,k2,hk⟩
     cases e with
     | normal=>
      simp only [Ks.at] at hk
      have l2:=j2.step k2.fr
      have acm:w2.heap[L]?=some (.loop { BB with state:=.ready,pending:=none }):=by rw [j2.same k2.fr];exact j1
      obtain ⟨ra,aeQ⟩:=EF (r':={ BB with state:=.busy,pending:=none }) acm
      refine ⟨_,run_beginRound acm rfl,?_⟩
      have kp3:=ra.kp l2.2.1 l2.2.2
      have abJ:SR (w2.putObj L (.loop { BB with state:=.busy,pending:=none })) F2 O2 FE (below s1.N) s1.st Lg a1:=⟨k2.sr.hr.kp kp3,k2.sr.nt,fun t=>(k2.sr.tm t).kp k2.sr.hr kp3,ra.df k2.sr.df⟩
      have l3:=l2.zz ra
      refine Code.wpIn_mono ?_ (ih2 HA.N (HA.nt,0) (some L) k s1 _ hk (.inr hy) wv k2.ok k2.le (Nat.zero_le _) k2.nt abJ)
      rintro e a2 w4 ⟨s2,F4,O4,μ4,ft4,k4,hk4⟩
      have l4:=l3.step k4.fr
      have acn:w4.heap[L]?=some (.loop { BB with state:=.busy,pending:=none }):=by rw [l3.same k4.fr];exact aeQ
      have fin:∀ (jump:Option Code) (r':Loop),r'={ BB with state:=(if jump.isNone then .ready else .done),pending:=jump }→∃ w5,(Instr.endRound L jump).run E.P w4=.ok (.bool jump.isNone) w5∧w5.heap[L]?=some (.loop r')∧Kp w1 w5 Fi Oi∧KC w5 F4 O4 L∧(∀ b,Fi b→F4 b)∧
        (∀ b,Oi b→W1.heap.size≤b∧KC w5 F4 O4 b)∧(HA.back s2).ok∧x5 w F O μ m0 n0 (HA.back s2) aM w5 F4 O4 μ4 ft4:=by
       rintro jump r' rfl
       obtain ⟨rb,aeR⟩:=EF (r':={ BB with state:=(if jump.isNone then .ready else .done),pending:=jump }) acn
       have l5:=l4.zz rb
       have kp5:=rb.kp l4.2.1 l4.2.2
       have vst:∀ {xx vv},VR w1 Fo Yp (below HA.N) xx vv→VR (w4.putObj L (.loop { BB with state:=(if jump.isNone then .ready else .done),pending:=jump })) F4 μ4 (below s2.N) xx vv:=fun {xx vv} hv=>by
        have v2:=hv.step hr k2.fr fun id (h:id < HA.N)=>(Nat.lt_of_lt_of_le h k2.le:id < s1.N)
        have v2':VR w2 F2 FE (below HA.N) xx vv:=hv.step hr k2.fr fun _ h=>h
        have v3:=v2'.mono (w':=w2.putObj L (.loop { BB with state:=.busy,pending:=none })) (F':=F2) (bB:=FE) (fun b hb=>kp3.LH b (.inl hb)) (fun _ h=>h) (fun _ _=>rfl) (fun _ h=>h) fun id bY=>kp3.shape _ (k2.sr.hr.lt id (Nat.lt_of_lt_of_le bY k2.le))
        have v4:=v3.mono (w':=w4) (F':=F4) (bB:=μ4) (K':=below s2.N) (fun b hb=>k4.fr.frozen abJ.hr b hb) k4.fr.zr (fun id bY=>k4.fr.mu id bY) (fun id (h:id < HA.N)=>Nat.lt_of_lt_of_le h k4.le) fun id bY=>k4.fr.shape _ (abJ.hr.lt id (Nat.lt_of_lt_of_le bY k2.le))
        exact v4.kp k4.sr.hr kp5
       have dfr:uO w1 Fo Oo aM.defers:=j5.sr.df
       have df5:=rb.df ((ra.df (dfr.step k2.fr)).step k4.fr)
       have agC:SR (w4.putObj L (.loop { BB with state:=(if jump.isNone then .ready else .done),pending:=jump })) F4 O4 μ4 (below s2.N) s2.st ft4 a2:=⟨k4.sr.hr.kp kp5,k4.sr.nt,fun t=>(k4.sr.tm t).kp k4.sr.hr kp5,rb.df k4.sr.df⟩
       obtain ⟨bk1,bk2⟩:=abK (a:=aM) j5.ok k4.ok j5.sr agC vst df5
       have Of:∀ id,id < m0→id < HA.N:=fun id h=>Nat.lt_of_lt_of_le h j5.le
       have agD:∀ b,Oi b→KC w4 F4 O4 b:=fun b hb=>(((j4 b hb).2.step k2.fr).zz ra).step k4.fr
       have ne:∀ b,Fi b∨Oi b→b≠L:=fun b hb e=>by
        subst e
        exact hb.elim (fun h=>j2.2.1 (j3 _ h)) fun h=>by
         have h1:=(j4 _ h).1
         rw [hW1] at h1
         have:w.heap.size+2≤w.heap.size+1:=h1
         omega
       refine ⟨_,run_endRound jump acn,aeR,?_,l5,fun b hb=>k4.fr.zr b (k2.fr.zr b (j3 b hb)),fun b hb=>⟨(j4 b hb).1,(agD b hb).zz rb⟩,bk1,⟨bk1,Nat.le_trans j5.le k4.le,⟨j5.nt.1,j5.nt.2⟩,bk2,?_⟩⟩
       ·have lt1:∀ b,Fi b∨Oi b→b < w1.heap.size:=fun b hb=>hb.elim (wf1.wf b) (wf1.p0 b)
        have aeS:∀ b,Fi b∨Oi b→w2.heap[b]?=w1.heap[b]?:=fun b hb=>hb.elim (fun h=>k2.fr.frozen hr b (j3 b h)) fun h=>(j4 b h).2.same k2.fr
        refine ⟨rb.os.trans (k4.fr.os.trans (ra.os.trans k2.fr.os)),rb.tape.trans (k4.fr.tape.trans (ra.tape.trans k2.fr.tape)),rb.output.trans (k4.fr.output.trans (ra.output.trans k2.fr.output)),?_,fun b hb=>?_,fun b hb=>?_⟩
        ·rw [rb.size];exact Nat.le_trans k2.fr.size (Nat.le_trans (Nat.le_of_eq ra.size.symm) k4.fr.size)
        ·rw [rb.same b (ne b hb)]
         have e4:w4.heap[b]?=(w2.putObj L (.loop { BB with state:=.busy,pending:=none })).heap[b]?:=hb.elim (fun h=>k4.fr.frozen abJ.hr b (k2.fr.zr b (j3 b h))) fun h=>(((j4 b h).2.step k2.fr).zz ra).same k4.fr
         rw [e4,ra.same b (ne b hb),aeS b hb]
        ·rw [rb.shape b]
         have hb3:b < (w2.putObj L (.loop { BB with state:=.busy,pending:=none })).heap.size:=by rw [ra.size];exact Nat.lt_of_lt_of_le hb k2.fr.size
         rw [k4.fr.shape b hb3,ra.shape b,k2.fr.shape b hb]
       ·exact ((((j5.fr.trans (k2.fr.Of Of)).zz ra hL1).trans (k4.fr.Of Of)).zz rb hL1)
      cases e with
      | normal=>
       simp only [Ks.at] at hk4
       obtain ⟨w5,e1,e2,e3,e4,e5,e6,e7,e8⟩:=fin none _ rfl
       refine ⟨_,w5,e1,true,rfl,e3,?_⟩
       obtain ⟨d',s3,g1,g2,F6,O6,μ6,ft6,g3⟩:=Ay hk4 e7 e8.le e8.nt e8.sr
       refine ⟨F6,O6,μ6,ft6,.ready,none,s3,by simpa using e2,e4.step g3.fr,fun b hb=>g3.fr.zr b (e5 b hb),fun b hb=>⟨(e6 b hb).1,(e6 b hb).2.step g3.fr⟩,⟨g3.ok,g3.le,g3.nt,g3.sr,e8.fr.trans g3.fr⟩,.inl ⟨rfl,rfl,d',g1,?_⟩⟩
       rw [← hsN];exact g2
      | ret=>
       simp only [Ks.at] at hk4
       obtain ⟨w5,e1,e2,e3,e4,e5,e6,e7,e8⟩:=fin (some .ret) _ rfl
       exact ⟨_,w5,e1,false,rfl,e3,F4,O4,μ4,ft4,.done,some .ret,HA.back s2,by simpa using e2,e4,e5,e6,e8,.inr ⟨rfl,rfl,.ret,.ret,rfl,.inl ⟨rfl,rfl⟩,fun _ _ _=>hk4⟩⟩
      | exit i=>
       simp only [Ks.at] at hk4
       obtain ⟨w5,e1,e2,e3,e4,e5,e6,e7,e8⟩:=fin (some (.exit i)) _ rfl
       exact ⟨_,w5,e1,false,rfl,e3,F4,O4,μ4,ft4,.done,some (.exit i),HA.back s2,by simpa using e2,e4,e5,e6,e8,.inr ⟨rfl,rfl,.exit i,.exit i,rfl,.inr ⟨i,rfl,rfl⟩,fun _ _ _=>hk4⟩⟩
      | goto i=>exact hk4.elim
      | panic l=>obtain ⟨_,_,_,h,_⟩:=hk4;cases h
      | outgrown=>exact hk4.elim
     | ret=>cases hk
     | exit i=>cases hk
     | goto i=>exact hk.elim
     | panic l=>obtain ⟨_,_,_,h,_⟩:=hk;cases h
     | outgrown=>exact hk.elim
    have lD:=aeN xv xs hL cas (by rw [kK hcx];exact ca1) W1 F1 μ us ?_ hh1.sr.hr.wf hh1.sr.hr.pos L J aeP Vr hJ0
    ·refine ⟨L,[xK w.heap.size],W1,⟨.fn (.func c.f) ⟨us⟩,#[]++#[.func (.yield L) #[] #[]]⟩,W1,c.f,⟨.func (.yield L) ⟨[]⟩ ⟨[]⟩::us⟩,W1,run_enterLoop_outer _ _ _ _ _,?_,fun _ _=>trivial,?_,(fun h=>by cases h),CallsIn.mono lD ?_⟩
     ·simp [resolve,F_,Deferred.ofValue]
      rfl
     ·have:=TI ⟨.func (.yield L) ⟨[]⟩ ⟨[]⟩::us⟩ W1
      simp only [invoke]
      simpa using this
     ·rintro e w' ⟨v,F',O',rfl,Fo,Oo,Yp,fto,st,p,HA,j1,j2,j3,j4,j5,j6⟩
      have hL1:w.heap.size≤L:=by show w.heap.size≤w.heap.size+1;omega
      rcases j6 with ⟨rfl,rfl,d,d1,d2⟩ | ⟨_,rfl,cj,e,rfl,hce,hat⟩
      ·refine ⟨none,_,run_endLoop j1 (by simp),?_⟩
       obtain ⟨ra,_⟩:=EF (r':={ BB with state:=.exhausted,pending:=none }) j1
       have hd:xy f.dR (Ed f s.nt ks.n) d=some z:=d1
       rw [Az d2] at hd
       exact ⟨HA,Fo,Oo,Yp,fto,j5.zz ra hL1 j2.2.1 j2.2.2,hd⟩
      ·refine ⟨some cj,_,run_endLoop j1 (by simp),?_⟩
       obtain ⟨ra,_⟩:=EF (r':={ BB with state:=.exhausted,pending:=some cj }) j1
       have hhe:=j5.zz ra hL1 j2.2.1 j2.2.2
       rcases hce with ⟨rfl,rfl⟩ | ⟨i,rfl,rfl⟩
       ·exact wpIn_ret ⟨HA,Fo,Oo,Yp,fto,hhe,hat _ _ _⟩
       ·exact wpIn_exit ⟨HA,Fo,Oo,Yp,fto,hhe,hat _ _ _⟩
    ·have AA:Fr w F O μ (below m0) W1 F1 O1 Kj:=hh.fr.trans gw.fr
     have Og:=ca2 RR
     exact ⟨Og.1,fun i hi=>(Og.2 i hi).mono (fun b hb=>AA.frozen hs.hr b hb) AA.zr (fun _ h=>h.elim) (fun _ h=>h) fun _ h=>h.elim⟩
   ·cases h0
  ·cases h
 ·cases h
theorem adI {E:Env} {bH:Nat→List CT} {A:Ann} {z:R} {K0:Nat} (hE:∀ k,k≤K0→vT E (bH k)) (hI:∀ k,k≤K0→∀ c,c∈A.it k→JE E.P c) (bA:E.P.follows .mixedOrders=true):∀ (c:Code),aaf E.P z (fun m k s ks=>den E bH A m c k s ks) c K0:=by
 intro c
 induction c with
 | skip=>
  intro m0 n0 ro k s ks h P7 wv ho hm w F O μ ft a fw hn hs
  exact wpIn_skip ⟨s,F,O,μ,ft,.refl ho hm hn hs,h⟩
 | label l=>
  intro m0 n0 ro k s ks h P7 wv ho hm w F O μ ft a fw hn hs
  exact wpIn_label ⟨s,F,O,μ,ft,.refl ho hm hn hs,h⟩
 | exit id=>
  intro m0 n0 ro k s ks h P7 wv ho hm w F O μ ft a fw hn hs
  exact wpIn_exit ⟨s,F,O,μ,ft,.refl ho hm hn hs,h⟩
 | ret=>
  intro m0 n0 ro k s ks h P7 wv ho hm w F O μ ft a fw hn hs
  exact wpIn_ret ⟨s,F,O,μ,ft,.refl ho hm hn hs,h⟩
 | goto l=>intro m0 n0 ro k s ks h;simp [den] at h
 | refuse l=>intro m0 n0 ro k s ks h;simp [den] at h
 | rangeFunc g ps x y ih1 ih2=>
  intro m0 n0 ro k s ks h P7 wv ho hm w F O μ ft a fw hn hs
  obtain ⟨ps⟩:=ps
  have hro:ro=none:=P7.resolve_right (by simp [uR])
  subst hro
  simp only [den] at h
  exact aag hI ih1 ih2 h wv ho hm fw hn hs
 | region id ops draw=>
  intro m0 n0 ro k s ks h P7 wv ho hm w F O μ ft a fw hn hs
  obtain ⟨ops⟩:=ops
  cases draw with
  | false=>
   simp only [den] at h
   refine wpIn_region_list (Tx (hE k wv) h ho hm hn hs (fun s' a' w' F' O' bB b7 h1 h2=>⟨s',F',O',bB,b7,h2,h1⟩) fun v u s' a' w' F' O' bB b7 h1 hw h2 h3=>⟨s',F',O',bB,b7,h3,u,v,rfl,h1,hw,h2⟩)
  | true=>
   simp only [den] at h
   split at h
   ·unfold ack at h
    split at h
    ·split at h
     ·exact Vs (hE k wv) bA h ho hm hn hs fun s' a' w' F' O' bB b7 h1 h2=>⟨s',F',O',bB,b7,h2,h1⟩
     ·cases h
    ·exact XX (hE k wv) bA h ho hm hn hs fun s' a' w' F' O' bB b7 h1 h2=>⟨s',F',O',bB,b7,h2,h1⟩
   ·cases h
 | seq x y ihx ihy=>
  intro m0 n0 ro k s ks h P7 wv ho hm w F O μ ft a fw hn hs
  have abL:uR (.seq x y)=true→uR x=true:=fun h=>by simp only [uR,Bool.and_eq_true] at h;exact h.1
  have abM:uR (.seq x y)=true→uR y=true:=fun h=>by simp only [uR,Bool.and_eq_true] at h;exact h.2
  simp only [den] at h
  refine wpIn_seq ?_
  split at h
  ·rename_i f hf
   simp only [share] at h
   refine Code.wpIn_mono ?_ (ihx m0 n0 ro k s _ h (P7.imp id abL) wv ho hm fw hn hs)
   rintro e a' w' ⟨s',F',O',bB,b7,hh,hk⟩
   cases e with
   | normal=>
    obtain ⟨x,s2,h1,h2,F2,O2,FE,Lg,h3⟩:=Ay (w:=w') (F:=F') (O:=O') (μ:=bB) (ft:=b7) (a:=a') hk hh.ok hh.le hh.nt hh.sr
    have h2':instF s.nt f (eG f.dR x)=some s2:=by rw [hn.1,← hh.nt.1];exact h2
    rw [Az h2'] at h1
    exact Code.wpIn_mono (Gc.trans (hh.fr.trans h3.fr)) (ihy m0 n0 ro k s2 ks h1 (P7.imp id abM) wv h3.ok h3.le (Nat.le_trans fw hh.fr.size) h3.nt h3.sr)
   | _=>exact ⟨s',F',O',bB,b7,hh,hk⟩
  ·refine Code.wpIn_mono ?_ (ihx m0 n0 ro k s _ h (P7.imp id abL) wv ho hm fw hn hs)
   rintro e a' w' ⟨s',F',O',bB,b7,hh,hk⟩
   cases e with
   | normal=>exact Code.wpIn_mono (Gc.trans hh.fr) (ihy m0 n0 ro k s' ks hk (P7.imp id abM) wv hh.ok hh.le (Nat.le_trans fw hh.fr.size) hh.nt hh.sr)
   | _=>exact ⟨s',F',O',bB,b7,hh,hk⟩
 | cond c x y ihx ihy=>
  intro m0 n0 ro k s ks h P7 wv ho hm w F O μ ft a fw hn hs
  have abL:uR (.cond c x y)=true→uR x=true:=fun h=>by simp only [uR,Bool.and_eq_true] at h;exact h.1
  have abM:uR (.cond c x y)=true→uR y=true:=fun h=>by simp only [uR,Bool.and_eq_true] at h;exact h.2
  simp only [den] at h
  split at h
  ·rename_i b hb
   have hv:=b8 hb hs
   simp only [TA.av,cK] at hv
   cases b with
   | true=>exact wpIn_cond_true hv.ey (ihx m0 n0 ro k s ks h (P7.imp id abL) wv ho hm fw hn hs)
   | false=>exact wpIn_cond_false hv.ey (ihy m0 n0 ro k s ks h (P7.imp id abM) wv ho hm fw hn hs)
  ·cases h
 | block id c ih=>
  intro m0 n0 ro k s ks h P7 wv ho hm w F O μ ft a fw hn hs
  simp only [den] at h
  refine wpIn_block (Code.wpIn_mono ?_ (ih m0 n0 ro k s _ h P7 wv ho hm fw hn hs))
  rintro e a' w' ⟨s',F',O',bB,b7,hh,hk⟩
  cases e with
  | exit b9=>
   simp only [Ks.at] at hk
   simp only [Exit.inBlock]
   split
   ·rename_i e
    subst e
    rw [Nat.beq_refl] at hk
    exact ⟨s',F',O',bB,b7,hh,hk⟩
   ·rename_i e
    rw [ca e] at hk
    exact ⟨s',F',O',bB,b7,hh,hk⟩
  | _=>exact ⟨s',F',O',bB,b7,hh,hk⟩
 | scope c ih=>
  intro m0 n0 ro k s ks h P7 wv ho hm w F O μ ft a fw hn hs
  simp only [den] at h
  refine FH (Code.wpIn_mono ?_ (ih m0 n0 ro k s _ h P7 wv ho hm fw hn hs))
  rintro e a' w' ⟨s',F',O',bB,b7,hh,hk⟩
  cases e with
  | goto l=>exact hk.elim
  | _=>exact ⟨s',F',O',bB,b7,hh,hk⟩
 | loop c ih=>
  intro m0 n0 ro k s ks h P7 wv ho hm w F O μ ft a fw hn hs
  simp only [den] at h
  split at h
  ·rename_i f hf
   have key:∀ (k:Nat),k≤K0→∀ (x:x4 f.dR) (s':bK),xy f.dR (iter k fun k' rec=>Ed f s.nt fun s'=>den E bH A m0 c k' s' { ks with n:=Cb f m0 rec }) x=some z→instF s.nt f (eG f.dR x)=some s'→s'.ok→m0≤s'.N→
     ∀ {w:World} {F O:Nat→Prop} {μ:Nat→Nat} {ft:Nat→Nat→Prop} {a:Act},n0.2≤w.heap.size→OY n0 s' a→SR w F O μ (below s'.N) s'.st ft a→zc ro E.P c (Gc ks z w F O μ m0 n0) a w:=by
    intro k
    induction k with
    | zero=>
     intro _ x s' h1
     simp only [iter] at h1
     rw [wj] at h1
     cases h1
    | succ k ihk=>
     intro wv x s' h1 h2 Jl Xy w F O μ ft a aeT hn' Ig
     simp only [iter] at h1
     rw [Az h2] at h1
     refine zc.round (Code.wpIn_mono ?_ (ih m0 n0 ro k s' _ h1 P7 (by omega) Jl Xy aeT hn' Ig))
     rintro e a' w' ⟨s2,F',O',bB,b7,hh,hk⟩
     cases e with
     | normal=>
      obtain ⟨x',s3,k1,k2,F2,O2,FE,Lg,k3⟩:=Ay (w:=w') (F:=F') (O:=O') (μ:=bB) (ft:=b7) (a:=a') hk hh.ok hh.le hh.nt hh.sr
      have k2':instF s.nt f (eG f.dR x')=some s3:=by rw [hn.1,← hh.nt.1];exact k2
      exact zc.mono (Gc.trans (hh.fr.trans k3.fr)) (ihk (by omega) x' s3 k1 k2' k3.ok k3.le (Nat.le_trans aeT hh.fr.size) k3.nt k3.sr)
     | _=>exact ⟨s2,F',O',bB,b7,hh,hk⟩
   obtain ⟨x,s',h1,h2,F',O',bB,b7,h3⟩:=Ay h ho hm hn hs
   exact (zc.mono (Gc.trans h3.fr) (key k wv x s' h1 h2 h3.ok h3.le fw h3.nt h3.sr)).wp
  ·cases h
end Go.Proofs.YtljfmaaadnoggaaGreatDoor.cU
