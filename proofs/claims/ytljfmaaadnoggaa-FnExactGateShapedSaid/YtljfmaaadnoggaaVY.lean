/- What code computes, as a function of states. No condition. -/
import Derived.Test.YtljfmaaadnoggaaWI
import Derived.Scope
set_option linter.unusedSimpArgs false
set_option linter.unusedVariables false
namespace Go.Proofs.Ytljfmaaadnoggaa.Abs
open Go Go.RowKit
variable {w w' w'':World} {F F' F'' O O' O'':Nat→Prop} {μ μ' μ'':Nat→Nat} {K K' K'':Nat→Prop} {ft ft':Nat→Nat→Prop} {P:Program} {R:Type}
def share {α β:Type} (x:α) (f:α→β):β:=f x
def iter {ts:List Ty} {R:Type} (k:Nat) (body:Nat→Fn' ts (Option R)→Fn' ts (Option R)):Fn' ts (Option R):=match k with
 | 0=>curT ts fun _=>none
 | k+1=>body k (iter k body)
structure Ann where
 loop:List (Nat×Frame')
 join:List (Nat×Frame')
 draw:List (Nat×List Nat×List (Nat×List Nat))
 it:Nat→List IT
def frOf:List (Nat×Frame')→Nat→Option Frame'
 | [],_=>none
 | (i,f)::r,k=>match Nat.beq k i with
  | true=>some f
  | false=>frOf r k
def drOf:List (Nat×List Nat×List (Nat×List Nat))→Nat→Option (List Nat×List (Nat×List Nat))
 | [],_=>none
 | (i,f)::r,k=>match Nat.beq k i with
  | true=>some f
  | false=>drOf r k
def firstR:Code→Option Nat
 | .region id _ _=>some id
 | .seq a b=>match firstR a with
  | some i=>some i
  | none=>firstR b
 | .cond _ a b=>match firstR a with
  | some i=>some i
  | none=>firstR b
 | .block _ c=>firstR c
 | .loop c=>firstR c
 | .scope c=>firstR c
 | .rangeFunc _ _ c _=>firstR c
 | _=>none
def frAt (l:List (Nat×Frame')) (c:Code):Option Frame':=match firstR c with
 | some i=>frOf l i
 | none=>none
structure Ks (R:Type) where
 n:TSt→Option R
 x:Nat→TSt→Option R
 r:TSt→Option R
 p:TA→TSt→Option R
inductive Place where
 | tm (t:Nat) (ty:Ty) (v:RV)
 | cell (id off:Nat) (ty:Ty) (v:RV)
 | ren (id off:Nat)
 | rent (t:Nat)
def virt1 (s:TSt):Place→TSt
 | .tm t ty v=>match look s.tm t,v.b with
  | .nils,true=>⟨s.nt,s.N+1,(t,.ow s.N)::s.tm,updH s.H [(s.N,some (.row ty v []))]⟩
  | _,_=>s
 | .cell id off ty v=>match lookH s.H id,v.b with
  | some (.box l),true=>match l.getD off .top with
   | .nils=>⟨s.nt,s.N+1,s.tm,updH s.H [(id,some (.box (l.set off (.ow s.N)))),(s.N,some (.row ty v []))]⟩
   | _=>s
  | _,_=>s
 | .ren id off=>match lookH s.H id with
  | some (.box l)=>match l.getD off .top with
   | .ow j=>match lookH s.H j with
    | some (.row ty v xs)=>⟨s.nt,s.N+1,s.tm,updH s.H [(id,some (.box (l.set off (.ow s.N)))),(s.N,some (.row ty v xs)),(j,none)]⟩
    | _=>s
   | _=>s
  | _=>s
 | .rent t=>match look s.tm t with
  | .ow j=>match lookH s.H j with
   | some (.row ty v xs)=>⟨s.nt,s.N+1,(t,.ow s.N)::s.tm,updH s.H [(s.N,some (.row ty v xs)),(j,none)]⟩
   | _=>s
  | _=>s
def virts (s:TSt):List Place→TSt
 | []=>s
 | p::r=>virts (virt1 s p) r
theorem virt_new {s:TSt} {a:Act} (ty:Ty) (v:RV) (hs:SR w F O μ (below s.N) s.st ft a):
  HR w F O (mu1 μ s.N 0) (below (s.N+1)) (s.st.H.upd [(s.N,some (.row true (tsz ty) 0 (vcells v ty [])))]) ft∧Fr w F O μ (below s.N) w F O (mu1 μ s.N 0):=by
 have h:=virt_step (N:=s.N) (esz:=tsz ty) (e:=vcells v ty []) hs.hr (fun h=>absurd h (by simp [below]))
 have e:plus (below s.N) [s.N]=below (s.N+1):=below_plus s.N 1
 rw [e] at h
 exact h
theorem HR.imp1 {H H':Hp} (hr:HR w F O μ K H ft) (h:∀ id b',H' id=some b'→∃ b,H id=some b∧(b'.lies=true→b.lies=true)∧∀ o,BlkR w F μ K (ft id) (μ id) o b→BlkR w F μ K (ft id) (μ id) o b'):HR w F O μ K H' ft:=by
 have lv:∀ id,H'.live id→H.live id:=fun id ⟨b',hb',hl⟩=>by
  obtain ⟨b,h1,h2,_⟩:=h id b' hb'
  exact ⟨b,h1,h2 hl⟩
 refine { lt:=hr.lt,known:=fun id b' hb'=>?_,blk:=fun id b' hb' hl=>?_,self:=fun id hl=>hr.self id (lv id hl),own:=fun id hl=>hr.own id (lv id hl),dj:=fun id id' hl hl'=>hr.dj id id' (lv id hl) (lv id' hl'),nof:=hr.nof,wf:=hr.wf,owf:=hr.owf,pos:=hr.pos }
 ·obtain ⟨b,h1,_⟩:=h id b' hb'
  exact hr.known id b h1
 ·obtain ⟨b,h1,h2,h3⟩:=h id b' hb'
  obtain ⟨o,ho,hB⟩:=hr.blk id b h1 (h2 hl)
  exact ⟨o,ho,h3 o hB⟩
theorem ren_row {v:Bool} {j N n esz:Nat} {u:Value} (hN:K N) (hμ:(v=true∧n=0)∨μ N=μ j) (h:VR w F μ K (rowAV v j n esz) u):VR w F μ K (rowAV v N n esz) u:=by
 cases v with
 | false=>
  have e:μ N=μ j:=by rcases hμ with ⟨h,_⟩ | h;cases h;exact h
  simp only [rowAV] at h ⊢
  cases h with
  | ms _ _ _ _ cap sz t hid hc hs hsz=>rw [← e];exact .ms _ _ _ _ cap sz t hN hc (by rw [e];exact hs) hsz
 | true=>
  simp only [rowAV] at h ⊢
  cases h with
  | vs _ _ _ cap sz t hn hid hc hs hsz=>
   have e:μ N=μ j:=by rcases hμ with ⟨_,h⟩ | h;exact absurd h hn;exact h
   rw [← e];exact .vs _ _ _ cap sz t hn hN hc (by rw [e];exact hs) hsz
  | vsnil=>exact .vsnil _ _ _
theorem ren_ok {s:TSt} {a:Act} {j:Nat} {ty:Ty} {v:RV} {xs:List ty.dn} (hs:SR w F O μ (below s.N) s.st ft a) (hj:lookH s.H j=some (.row ty v xs)):
  ∃ μ' ft',HR w F O μ' (below (s.N+1)) (s.st.H.upd [(s.N,some (.row v.b (tsz ty) xs.length (vcells v ty xs))),(j,none)]) ft'∧Fr w F O μ (below s.N) w F O μ'∧
   ∀ u,VR w F μ' (below (s.N+1)) (rowAV v.b j xs.length (tsz ty)) u→VR w F μ' (below (s.N+1)) (rowAV v.b s.N xs.length (tsz ty)) u:=by
 have hH:s.st.H j=some (.row v.b (tsz ty) xs.length (vcells v ty xs)):=st_at hj
 have hjN:j < s.N:=hs.hr.known j _ hH
 have eK:plus (below s.N) [s.N]=below (s.N+1):=below_plus s.N 1
 have hKN:¬ below s.N s.N:=by simp [below]
 cases hl:(Blk.row v.b (tsz ty) xs.length (vcells v ty xs)).lies with
 | true=>
  obtain ⟨o,ho,hB⟩:=hs.hr.blk j _ hH hl
  have hlv:s.st.H.live j:=⟨_,hH,hl⟩
  have hself:=hs.hr.self j hlv
  have hO:=hs.hr.own j hlv _ hself
  have hp:Put w w (μ j) o:=⟨rfl,rfl,rfl,Nat.le_refl _,hs.hr.lt j hjN,ho,fun _ _ _=>rfl,fun _ _=>rfl⟩
  obtain ⟨k1,k2⟩:=put_step (M:=s.N) (L:=[j]) (S:=ft j) hs.hr hp (.inl hO) (fun h=>absurd h hKN) (fun x hx=>.inr ⟨j,.inr (by simp),hlv,hx⟩) hself
   (fun id h1 h2 h3 h4=>h3 (by have:=hs.hr.dj id j h1 hlv _ h4 hself;simp [this])) hB
  have eO:(fun x=>O x∨x=μ j)=O:=by
   funext x
   exact propext ⟨fun h=>by rcases h with h | h;exact h;rw [h];exact hO,.inl⟩
  rw [eO,eK] at k1
  rw [eO] at k2
  refine ⟨_,_,k1,k2,fun u hu=>ren_row (by simp [below]) (.inr ?_) hu⟩
  rw [mu1_new,mu1_old (by omega)]
 | false=>
  have hv:v.b=true∧xs.length=0:=by
   cases hvb:v.b with
   | false=>rw [hvb] at hl;simp [Blk.lies] at hl
   | true=>rw [hvb] at hl;simpa [Blk.lies] using hl
  obtain ⟨k1,k2⟩:=virt_step (N:=s.N) (esz:=tsz ty) (e:=vcells v ty xs) hs.hr hKN
  rw [eK] at k1
  refine ⟨_,ft,k1.imp fun id b' hb'=>?_,k2,fun u hu=>ren_row (by simp [below]) (.inl hv) hu⟩
  simp only [Hp.upd] at hb' ⊢
  by_cases e:id=s.N
  ·rw [if_pos e] at hb' ⊢
   rw [hv.1,hv.2] at hb'
   exact ⟨b',hb',BImp.refl _⟩
  ·rw [if_neg e] at hb' ⊢
   by_cases e2:id=j
   ·rw [if_pos e2] at hb';cases hb'
   ·rw [if_neg e2] at hb'
    exact ⟨b',hb',BImp.refl _⟩
theorem ren_state {s:TSt} {a:Act} {j:Nat} {ty:Ty} {v:RV} {xs:List ty.dn} (ho:s.ok) (hs:SR w F O μ (below s.N) s.st ft a) (hj:lookH s.H j=some (.row ty v xs)) {tm':List (Nat×TA)} {H':List (Nat×TBlk)}
  (hsub:Sub s.H H' s.N) (hN:lookH H' s.N=some (.row ty v xs)) (hj':∀ b,lookH H' j=some b→b.vis=false) (htm:∀ t,look tm' t=look s.tm t∨(look s.tm t=.ow j∧look tm' t=.ow s.N))
  (hH:∀ id,id≠s.N→id≠j→lookH H' id=lookH s.H id∨∃ l off,lookH s.H id=some (.box l)∧l.getD off .top=.ow j∧lookH H' id=some (.box (l.set off (.ow s.N)))):
  TSt.ok ⟨s.nt,s.N+1,tm',H'⟩∧s.N≤s.N+1∧s.nt=s.nt∧Sub s.H H' s.N∧∃ μ' ft',SR w F O μ' (below (s.N+1)) (TSt.st ⟨s.nt,s.N+1,tm',H'⟩) ft' a∧Fr w F O μ (below s.N) w F O μ':=by
 obtain ⟨μ',ft',h1,h2,h3⟩:=ren_ok hs hj
 have hjN:j < s.N:=hs.hr.known j _ (st_at hj)
 have ej:(TA.ow j).av s.H=rowAV v.b j xs.length (tsz ty):=by simp only [TA.av,hj,shp]
 have eN:(TA.ow s.N).av H'=rowAV v.b s.N xs.length (tsz ty):=by simp only [TA.av,hN,shp]
 have stp:∀ {x u},VR w F μ (below s.N) x u→VR w F μ' (below (s.N+1)) x u:=fun hx=>hx.step hs.hr h2 fun id (h:id < s.N)=>(by show id < s.N+1;omega)
 refine ⟨⟨fun t=>?_,fun id l hl=>?_⟩,Nat.le_succ _,rfl,hsub,μ',ft',⟨h1.imp1 fun id b' hb=>?_,hs.nt,fun t=>?_,hs.df⟩,h2⟩
 ·show (look tm' t).wf H' (s.N+1)
  rcases htm t with e | ⟨_,e⟩
  ·rw [e];exact (av_sub hsub (Nat.le_succ _) _ (ho.tm t)).2
  ·rw [e];simp only [TA.wf];omega
 ·have hl:lookH H' id=some l:=hl
  by_cases e:id=s.N
  ·rw [e,hN] at hl;cases hl;simp only [TBlk.refs,wfL]
  ·by_cases e2:id=j
   ·subst e2
    have:=hj' _ hl
    cases l with
    | hid=>simp only [TBlk.refs,wfL]
    | _=>cases this
   ·rcases hH id e e2 with h | ⟨l0,off,q3,q4,q5⟩
    ·rw [h] at hl;exact (avL_sub hsub (Nat.le_succ _) _ (ho.H id _ hl)).2
    ·rw [q5] at hl
     cases hl
     have hw:=(avL_sub hsub (Nat.le_succ s.N) _ (show wfL s.H s.N l0 from ho.H id _ q3)).2
     refine wfL_iff.2 fun x hx=>?_
     rcases List.mem_or_eq_of_mem_set hx with h | h
     ·exact wfL_iff.1 hw x h
     ·rw [h];simp only [TA.wf];omega
 ·obtain ⟨c,hc,hv,rfl⟩:=hpT_some hb
  by_cases e:id=s.N
  ·subst e
   rw [hN] at hc
   cases hc
   exact ⟨_,by simp only [Hp.upd,if_true];rfl,fun h=>h,fun o h=>h⟩
  ·by_cases e2:id=j
   ·subst e2;have:=hj' _ hc;rw [this] at hv;cases hv
   ·have eu:(s.st.H.upd [(s.N,some (.row v.b (tsz ty) xs.length (vcells v ty xs))),(j,none)]) id=s.st.H id:=by simp only [Hp.upd,if_neg e,if_neg e2]
    rw [eu]
    rcases hH id e e2 with h | ⟨l0,off,q3,q4,q5⟩
    ·rw [h] at hc
     refine ⟨_,st_at hc hv,?_⟩
     rw [show (TSt.H ⟨s.nt,s.N+1,tm',H'⟩)=H' from rfl,blk_sub hsub (ho.H id _ hc)]
     exact ⟨fun h=>h,fun o h=>h⟩
    ·rw [q5] at hc
     cases hc
     refine ⟨_,st_at q3,fun _=>rfl,fun o ⟨cs,t,m1,m2,m3,m4⟩=>⟨cs,t,m1,m2,?_,fun k hk=>?_⟩⟩
     ·rw [avL_length] at m3 ⊢;simpa using m3
     ·rw [avL_length] at hk
      have hk0:k < l0.length:=by simpa using hk
      have m5:=m4 k (by rw [avL_length];exact hk0)
      rw [avL_getD _ _ _ hk0] at m5
      rw [avL_getD _ _ _ hk]
      show VR w F μ' _ (((l0.set off (.ow s.N)).getD k .top).av H') _
      by_cases e3:off=k
      ·subst e3
       have e4:(l0.set off (.ow s.N)).getD off .top=.ow s.N:=by simp [List.getD,hk0]
       rw [q4,ej] at m5
       rw [e4,eN]
       exact h3 _ m5
      ·have e4:(l0.set off (.ow s.N)).getD k .top=l0.getD k .top:=by simp [List.getD,List.getElem?_set_ne e3]
       rw [e4,(av_sub hsub (Nat.le_refl _) _ (getD_wf (show wfL s.H s.N l0 from ho.H id _ q3) k)).1]
       exact m5
 ·show VR w F _ _ ((look tm' t).av H') _
  have hv:=hs.tm t
  rcases htm t with e | ⟨e0,e⟩
  ·rw [e,(av_sub hsub (Nat.le_refl _) _ (ho.tm t)).1]
   exact stp hv
  ·rw [e,eN]
   have hv':VR w F μ (below s.N) ((look s.tm t).av s.H) (a.tmps.getD t undef):=hv
   rw [e0,ej] at hv'
   exact h3 _ (stp hv')
theorem virt1_ok {s:TSt} {a:Act} (p:Place) (ho:s.ok) (hs:SR w F O μ (below s.N) s.st ft a):(virt1 s p).ok∧s.N≤(virt1 s p).N∧(virt1 s p).nt=s.nt∧
  Sub s.H (virt1 s p).H s.N∧∃ μ' ft',SR w F O μ' (below (virt1 s p).N) (virt1 s p).st ft' a∧Fr w F O μ (below s.N) w F O μ':=by
 have same:s.ok∧s.N≤s.N∧s.nt=s.nt∧Sub s.H s.H s.N∧∃ μ' ft',SR w F O μ' (below s.N) s.st ft' a∧Fr w F O μ (below s.N) w F O μ':=⟨ho,Nat.le_refl _,rfl,Sub.refl _ _,μ,ft,hs,Fr.refl _ _ _ _ _⟩
 have key:∀ (ty:Ty) (v:RV) (tm':List (Nat×TA)) (H':List (Nat×TBlk)),v.b=true→Sub s.H H' s.N→lookH H' s.N=some (.row ty v [])→(∀ t,look tm' t=look s.tm t∨(look s.tm t=.nils∧look tm' t=.ow s.N))→
   (∀ id,id≠s.N→lookH H' id=lookH s.H id∨∃ l off,lookH s.H id=some (.box l)∧l.getD off .top=.nils∧lookH H' id=some (.box (l.set off (.ow s.N))))→
   TSt.ok ⟨s.nt,s.N+1,tm',H'⟩∧s.N≤s.N+1∧s.nt=s.nt∧Sub s.H H' s.N∧∃ μ' ft',SR w F O μ' (below (s.N+1)) (TSt.st ⟨s.nt,s.N+1,tm',H'⟩) ft' a∧Fr w F O μ (below s.N) w F O μ':=by
  intro ty v tm' H' hvb hsub hN htm hH
  obtain ⟨h1,h2⟩:=virt_new (s:=s) (a:=a) ty v hs
  have nil_ow':∀ {w F μ' K' v},VR w F μ' K' .nils v→VR w F μ' K' ((TA.ow s.N).av H') v:=fun {w F μ' K' v} hv=>by
   rw [hv.nils_inv]
   simp only [TA.av,hN,shp,List.length_nil,hvb,rowAV]
   exact .vsnil _ _ _
  have nil_ow:∀ {μ' K' v},VR w F μ' K' .nils v→VR w F μ' K' ((TA.ow s.N).av H') v:=fun {μ' K' v} hv=>nil_ow' hv
  have stp:∀ {x v},VR w F μ (below s.N) x v→VR w F (mu1 μ s.N 0) (below (s.N+1)) x v:=fun hx=>hx.step hs.hr h2 fun id (h:id < s.N)=>(by show id < s.N+1;omega)
  refine ⟨⟨fun t=>?_,fun id l hl=>?_⟩,Nat.le_succ _,rfl,hsub,_,ft,⟨h1.imp fun id b' hb=>?_,hs.nt,fun t=>?_,hs.df⟩,h2⟩
  ·show (look tm' t).wf H' (s.N+1)
   rcases htm t with e | ⟨_,e⟩
   ·rw [e];exact (av_sub hsub (Nat.le_succ _) _ (ho.tm t)).2
   ·rw [e];simp only [TA.wf];omega
  ·have hl:lookH H' id=some l:=hl
   by_cases e:id=s.N
   ·rw [e,hN] at hl;cases hl;simp only [TBlk.refs,wfL]
   ·rcases hH id e with h | ⟨l0,off,h3,h4,h5⟩
    ·rw [h] at hl;exact (avL_sub hsub (Nat.le_succ _) _ (ho.H id _ hl)).2
    ·rw [h5] at hl
     cases hl
     have hw:=(avL_sub hsub (Nat.le_succ s.N) _ (show wfL s.H s.N l0 from ho.H id _ h3)).2
     refine wfL_iff.2 fun x hx=>?_
     rcases List.mem_or_eq_of_mem_set hx with h | h
     ·exact wfL_iff.1 hw x h
     ·rw [h];simp only [TA.wf];omega
  ·obtain ⟨c,hc,hv,rfl⟩:=hpT_some hb
   by_cases e:id=s.N
   ·subst e
    rw [hN] at hc
    cases hc
    refine ⟨_,by rw [Hp.upd_one,if_pos rfl],?_⟩
    simp only [TBlk.blk,hvb,List.length_nil]
    exact BImp.refl _
   ·rw [Hp.upd_one,if_neg e]
    rcases hH id e with h | ⟨l0,off,h3,h4,h5⟩
    ·rw [h] at hc
     refine ⟨_,st_at hc hv,?_⟩
     rw [show (TSt.H ⟨s.nt,s.N+1,tm',H'⟩)=H' from rfl,blk_sub hsub (ho.H id _ hc)]
     exact BImp.refl _
    ·rw [h5] at hc
     cases hc
     refine ⟨_,st_at h3,?_⟩
     simp only [TBlk.blk]
     refine bimp_box (by rw [avL_length,avL_length];simp) fun k hk=>?_
     rw [avL_length] at hk
     have hk0:k < l0.length:=by simpa using hk
     rw [avL_getD _ _ _ hk0,avL_getD _ _ _ hk]
     intro w1 F1 μ1 K1 v1 hv1
     by_cases e2:off=k
     ·subst e2
      have e3:(l0.set off (.ow s.N)).getD off .top=.ow s.N:=by simp [List.getD,hk0]
      rw [h4] at hv1
      simp only [TA.av] at hv1
      show VR w1 F1 μ1 K1 (((l0.set off (.ow s.N)).getD off .top).av H') v1
      rw [e3]
      exact nil_ow' hv1
     ·have e3:(l0.set off (.ow s.N)).getD k .top=l0.getD k .top:=by simp [List.getD,List.getElem?_set_ne e2]
      show VR w1 F1 μ1 K1 (((l0.set off (.ow s.N)).getD k .top).av H') v1
      rw [e3,(av_sub hsub (Nat.le_refl _) _ (getD_wf (show wfL s.H s.N l0 from ho.H id _ h3) k)).1]
      exact hv1
  ·show VR w F _ _ ((look tm' t).av H') _
   have hv:=hs.tm t
   rcases htm t with e | ⟨e0,e⟩
   ·rw [e,(av_sub hsub (Nat.le_refl _) _ (ho.tm t)).1]
    exact stp hv
   ·rw [e]
    have hv':VR w F μ (below s.N) ((look s.tm t).av s.H) (a.tmps.getD t undef):=hv
    rw [e0] at hv'
    simp only [TA.av] at hv'
    exact nil_ow (stp hv')
 cases p with
 | tm t ty v=>
  simp only [virt1]
  split
  ·rename_i h0 hvb
   refine key ty v _ _ hvb sub_new (by rw [updH_one,if_pos rfl]) (fun u=>?_) fun id e=>.inl (by rw [updH_one,if_neg e])
   simp only [look]
   cases e:Nat.beq u t with
   | true=>rw [Nat.eq_of_beq_eq_true e];exact .inr ⟨h0,rfl⟩
   | false=>exact .inl rfl
  ·exact same
 | cell id0 off ty v=>
  simp only [virt1]
  split
  ·rename_i l hl hvb
   split
   ·rename_i h0
    have hne:id0≠s.N:=fun e=>by
     have:=hs.hr.known id0 _ (st_at hl)
     simp only [below] at this;omega
    refine key ty v _ _ hvb (fun id hid=>?_) ?_ (fun u=>.inl rfl) fun id e=>?_
    ·simp only [updH,lookH]
     cases e:Nat.beq id id0 with
     | true=>rw [Nat.eq_of_beq_eq_true e,hl];rfl
     | false=>simp only [nbeq_ne (show ¬ id=s.N by omega)]
    ·simp only [updH,lookH,nbeq_ne (show ¬ s.N=id0 from fun h=>hne h.symm),Nat.beq_refl]
    ·simp only [updH,lookH]
     cases e2:Nat.beq id id0 with
     | true=>rw [Nat.eq_of_beq_eq_true e2];exact .inr ⟨l,off,hl,h0,rfl⟩
     | false=>exact .inl (by simp only [nbeq_ne e])
   ·exact same
  ·exact same
 | ren id0 off=>
  simp only [virt1]
  split
  ·rename_i l hl
   split
   ·rename_i j h0
    split
    ·rename_i ty v xs hj
     have hne:id0≠s.N:=fun e=>by
      have:=hs.hr.known id0 _ (st_at hl)
      simp only [below] at this;omega
     have hjN:j < s.N:=hs.hr.known j _ (st_at hj)
     have hij:id0≠j:=fun e=>by subst e;rw [hl] at hj;cases hj
     refine ren_state ho hs hj (fun id hid=>?_) ?_ (fun b hb=>?_) (fun u=>.inl rfl) fun id e e2=>?_
     ·simp only [updH,lookH]
      cases e:Nat.beq id id0 with
      | true=>rw [Nat.eq_of_beq_eq_true e,hl];rfl
      | false=>
       simp only [nbeq_ne (show ¬ id=s.N by omega)]
       cases e3:Nat.beq id j with
       | true=>simp only [shp];rw [Nat.eq_of_beq_eq_true e3]
       | false=>rfl
     ·simp only [updH,lookH,nbeq_ne (show ¬ s.N=id0 from fun h=>hne h.symm),Nat.beq_refl]
     ·simp only [updH,lookH,nbeq_ne (show ¬ j=id0 from fun h=>hij h.symm),nbeq_ne (show ¬ j=s.N by omega),Nat.beq_refl,Option.some.injEq] at hb
      rw [← hb];rfl
     ·simp only [updH,lookH]
      cases e3:Nat.beq id id0 with
      | true=>rw [Nat.eq_of_beq_eq_true e3];exact .inr ⟨l,off,hl,h0,rfl⟩
      | false=>exact .inl (by simp only [nbeq_ne e,nbeq_ne e2])
    ·exact same
   ·exact same
  ·exact same
 | rent t=>
  simp only [virt1]
  split
  ·rename_i j h0
   split
   ·rename_i ty v xs hj
    have hjN:j < s.N:=hs.hr.known j _ (st_at hj)
    refine ren_state ho hs hj (fun id hid=>?_) ?_ (fun b hb=>?_) (fun u=>?_) fun id e e2=>?_
    ·simp only [updH,lookH,nbeq_ne (show ¬ id=s.N by omega)]
     cases e3:Nat.beq id j with
     | true=>simp only [shp];rw [Nat.eq_of_beq_eq_true e3]
     | false=>rfl
    ·simp only [updH,lookH,Nat.beq_refl]
    ·simp only [updH,lookH,nbeq_ne (show ¬ j=s.N by omega),Nat.beq_refl,Option.some.injEq] at hb
     rw [← hb];rfl
    ·simp only [look]
     cases e:Nat.beq u t with
     | true=>rw [Nat.eq_of_beq_eq_true e];exact .inr ⟨h0,rfl⟩
     | false=>exact .inl rfl
    ·exact .inl (by simp only [updH,lookH,nbeq_ne e,nbeq_ne e2])
   ·exact same
  ·exact same
theorem virts_ok {a:Act}:∀ (L:List Place) {s:TSt} {μ:Nat→Nat} {ft:Nat→Nat→Prop},s.ok→SR w F O μ (below s.N) s.st ft a→(virts s L).ok∧s.N≤(virts s L).N∧(virts s L).nt=s.nt∧
  Sub s.H (virts s L).H s.N∧∃ μ' ft',SR w F O μ' (below (virts s L).N) (virts s L).st ft' a∧Fr w F O μ (below s.N) w F O μ'
 | [],s,μ,ft,ho,hs=>⟨ho,Nat.le_refl _,rfl,Sub.refl _ _,μ,ft,hs,Fr.refl _ _ _ _ _⟩
 | p::r,s,μ,ft,ho,hs=>by
  obtain ⟨h1,h2,h3,h6,μ1,ft1,h4,h5⟩:=virt1_ok p ho hs
  obtain ⟨k1,k2,k3,k6,μ2,ft2,k4,k5⟩:=virts_ok r h1 h4
  exact ⟨k1,Nat.le_trans h2 k2,k3.trans h3,(fun id hid=>(k6 id (Nat.lt_of_lt_of_le hid h2)).trans (h6 id hid)),μ2,ft2,k4,h5.trans (k5.pin fun id (hid:id < s.N)=>(show id < (virt1 s p).N by omega))⟩
def cellPl (m0:Nat) (bps:List Bp) (id:Nat):Nat→List Pat→List TA→List Place
 | off,.ow j::ps,.nils::as=>match bps[j]? with
  | some (.row ty v)=>.cell id off ty v::cellPl m0 bps id (off+1) ps as
  | _=>cellPl m0 bps id (off+1) ps as
 | off,.ow j::ps,.ow i::as=>match Nat.ble m0 j&&Nat.blt i m0 with
  | true=>.ren id off::cellPl m0 bps id (off+1) ps as
  | false=>cellPl m0 bps id (off+1) ps as
 | off,_::ps,_::as=>cellPl m0 bps id (off+1) ps as
 | _,_,_=>[]
def boxPl (m0:Nat) (bps:List Bp) (H:List (Nat×TBlk)) (j id:Nat):List Place:=match bps[j]?,lookH H id with
 | some (.box ps),some (.box l)=>cellPl m0 bps id 0 ps l
 | _,_=>[]
def tmPl (m0:Nat) (bps:List Bp) (s:TSt):List (Nat×Pat)→List Place
 | []=>[]
 | (t,.ow j)::r=>match look s.tm t with
  | .nils=>match bps[j]? with
   | some (.row ty v)=>.tm t ty v::tmPl m0 bps s r
   | _=>tmPl m0 bps s r
  | .ow i=>match Nat.ble m0 j&&Nat.blt i m0 with
   | true=>.rent t::tmPl m0 bps s r
   | false=>tmPl m0 bps s r
  | _=>tmPl m0 bps s r
 | (t,.bp j _)::r=>match look s.tm t with
  | .bp id _=>boxPl m0 bps s.H j id++tmPl m0 bps s r
  | _=>tmPl m0 bps s r
 | _::r=>tmPl m0 bps s r
def pinPl (m0:Nat) (bps:List Bp) (s:TSt):Nat→List Place
 | 0=>[]
 | m+1=>boxPl m0 bps s.H m m++pinPl m0 bps s m
def handW (f:Frame') (m0:Nat) (J:Fn' f.tys (Option R)) (s:TSt):Option R:=match extF (virts s (pinPl m0 f.bps s m0++tmPl m0 f.bps s f.tms)) m0 f with
 | some ds=>match castTup f.tys ds with
  | some x=>appT f.tys J x
  | none=>none
 | none=>none
def handT (f:Frame') (m0:Nat) (J:Fn' f.tys (Option R)) (s:TSt):Option R:=handW f m0 J (shuts s (hrowsOf s.H))
def takeT (f:Frame') (nt:Nat) (X:TSt→Option R):Fn' f.tys (Option R):=curT f.tys fun x=>match instF nt f (tupDyn f.tys x) with
 | some s=>X s
 | none=>none
def roundT (ps:List Nat) (nt:Nat) (f:Frame') (m0:Nat) (D1 D2:Nat→TSt→Ks R→Option R) (ks:Ks R) (ds:List Dyn) (J:Fn' f.tys (Option R)):Fn' f.tys (Option R):=
 takeT f nt fun s'=>D1 s'.N (s'.args ps ds) ⟨fun s1=>D2 s'.N s1 ⟨fun s2=>handT f m0 J (s'.back s2),fun i s2=>ks.x i (s'.back s2),fun s2=>ks.r (s'.back s2),fun _ _=>none⟩,fun _ _=>none,fun _=>none,fun _ _=>none⟩
def rangeT (E:Env) (A:Ann) (m0:Nat) (ok:Bool) (ps:List Nat) (D1 D2:Nat→TSt→Ks R→Option R) (fr:Option Frame') (k:Nat) (s:TSt) (ks:Ks R):TA→Option R
 | .fn (.func fi) [] caps=>match fr,ok&&ps.all (fun t=>t.blt s.nt) with
  | some f,true=>evIter s.H fi caps (A.it k) fun c xs=>match Nat.beq ps.length c.tys.length with
   | true=>handT f m0 (iterL (fun y=>roundT ps s.nt f m0 D1 D2 ks (tupDyn c.tys y)) (takeT f s.nt ks.n) xs) s
   | false=>none
  | _,_=>none
 | _=>none
def drawT (E:Env) (cts:List CT) (ops:List Oper) (B:Array Nat) (tch:List (Nat×List Nat)) (s:TSt) (κ:TSt→Option R):Option R:=match splitE ops with
 | some _=>match tch with
  | (_,[id])::_=>evDrawE E cts ops B id s κ
  | _=>none
 | none=>evDraw E cts ops B tch s κ
def den (E:Env) (cts:Nat→List CT) (A:Ann):Nat→Code→Nat→TSt→Ks R→Option R
 | m0,.skip,_,s,ks=>ks.n s
 | m0,.region _ ⟨ops⟩ false,k,s,ks=>evSeq E (cts k) ⟨ops⟩ ops s ks.n ks.p
 | m0,.region id ⟨ops⟩ true,k,s,ks=>match drOf A.draw id with
  | some (B,tch)=>drawT E (cts k) ops ⟨B⟩ tch s ks.n
  | none=>none
 | m0,.seq x y,k,s,ks=>match frAt A.join y with
  | some f=>share (takeT f s.nt fun s'=>den E cts A m0 y k s' ks) fun J=>den E cts A m0 x k s { ks with n:=handT f m0 J }
  | none=>den E cts A m0 x k s { ks with n:=fun s'=>den E cts A m0 y k s' ks }
 | m0,.cond c x y,k,s,ks=>match s.val c with
  | .d ⟨.bool,b⟩=>cond b (den E cts A m0 x k s ks) (den E cts A m0 y k s ks)
  | _=>none
 | m0,.block id c,k,s,ks=>den E cts A m0 c k s { ks with x:=fun i s'=>match Nat.beq i id with
  | true=>ks.n s'
  | false=>ks.x i s' }
 | m0,.loop c,k,s,ks=>match frAt A.loop c with
  | some f=>handT f m0 (iter k fun k' rec=>takeT f s.nt fun s'=>den E cts A m0 c k' s' { ks with n:=handT f m0 rec }) s
  | none=>none
 | m0,.exit id,_,s,ks=>ks.x id s
 | m0,.ret,_,s,ks=>ks.r s
 | m0,.scope c,k,s,ks=>den E cts A m0 c k s ks
 | m0,.label _,_,s,ks=>ks.n s
 | m0,.rangeFunc g ⟨ps⟩ x y,k,s,ks=>rangeT E A m0 (noRF x&&noRF y) ps (fun m s ks=>den E cts A m x k s ks) (fun m s ks=>den E cts A m y k s ks) (frAt A.loop x) k s ks (s.val g)
 | _,_,_,_,_=>none
def Ks.at (ks:Ks R) (z:R) (e:Exit) (s':TSt) (w':World) (F':Nat→Prop) (μ':Nat→Nat):Prop:=match e with
 | .normal=>ks.n s'=some z
 | .exit i=>ks.x i s'=some z
 | .ret=>ks.r s'=some z
 | .panic l=>∃ u v,l=[{ v:=u,recovered:=false }]∧ks.p v s'=some z∧v.wf s'.H s'.N∧VR w' F' μ' (below s'.N) (v.av s'.H) u
 | _=>False
def PostK (ks:Ks R) (z:R) (w:World) (F O:Nat→Prop) (μ:Nat→Nat) (m0:Nat) (nt:Nat×Nat):Exit→Act→World→Prop:=fun e a' w'=>
 ∃ s' F' O' μ' ft',Here w F O μ m0 nt s' a' w' F' O' μ' ft'∧ks.at z e s' w' F' μ'
theorem PostK.trans {ks:Ks R} {z:R} {m0:Nat} {nt:Nat×Nat} (hf:Fr w F O μ (below m0) w' F' O' μ') (e:Exit) (a:Act) (w'':World) (h:PostK ks z w' F' O' μ' m0 nt e a w''):PostK ks z w F O μ m0 nt e a w'':=by
 obtain ⟨s',F'',O'',μ'',ft',h1,h2⟩:=h
 exact ⟨s',F'',O'',μ'',ft',h1.trans hf,h2⟩
theorem handW_ok {f:Frame'} {m0:Nat} {J:Fn' f.tys (Option R)} {s:TSt} {z:R} {a:Act} (h:handW f m0 J s=some z) (ho:s.ok) (hm:m0≤s.N) {n0:Nat×Nat} (hn:NtB n0 s a) (hs:SR w F O μ (below s.N) s.st ft a):
  ∃ x s',appT f.tys J x=some z∧instF s.nt f (tupDyn f.tys x)=some s'∧∃ F' O' μ' ft',Here w F O μ m0 n0 s' a w F' O' μ' ft':=by
 unfold handW at h
 split at h
 ·rename_i ds hds
  split at h
  ·rename_i x hx
   obtain ⟨v1,v2,v3,_,μ1,ft1,v4,v5⟩:=virts_ok (pinPl m0 f.bps s m0++tmPl m0 f.bps s f.tms) ho hs
   obtain ⟨s',h1,h2,h3,h4,h5⟩:=canon_ok hds (Nat.le_trans hm v2)
   obtain ⟨F',O',μ',ft',k1,k2⟩:=h5 v4
   exact ⟨x,s',h,by rw [castTup_some hx,← v3];exact h1,F',O',μ',ft',h2,h4,hn.to (h3.trans v3),k1,(v5.pin fun id (hid:id < m0)=>(show id < s.N by omega)).trans k2⟩
  ·cases h
 ·cases h
theorem handT_ok {f:Frame'} {m0:Nat} {J:Fn' f.tys (Option R)} {s:TSt} {z:R} {a:Act} (h:handT f m0 J s=some z) (ho:s.ok) (hm:m0≤s.N) {n0:Nat×Nat} (hn:NtB n0 s a) (hs:SR w F O μ (below s.N) s.st ft a):
  ∃ x s',appT f.tys J x=some z∧instF s.nt f (tupDyn f.tys x)=some s'∧∃ F' O' μ' ft',Here w F O μ m0 n0 s' a w F' O' μ' ft':=by
 obtain ⟨y1,y2,y3,_,ft1,y4⟩:=shuts_ok (hrowsOf s.H) ho hs
 unfold handT at h
 generalize shuts s (hrowsOf s.H)=s0 at h y1 y2 y3 y4
 rw [← y2] at y4
 have:=handW_ok h y1 (by rw [y2];exact hm) (hn.to y3) y4
 rw [y3] at this
 exact this
theorem takeT_app {f:Frame'} {nt:Nat} {X:TSt→Option R} {x:Tup f.tys} {s':TSt} (h:instF nt f (tupDyn f.tys x)=some s'):appT f.tys (takeT f nt X) x=X s':=by
 unfold takeT
 rw [appT_curT,h]
def LoopW (r:Option Nat) (P:Program) (c:Code) (Q:Exit→Act→World→Prop) (a:Act) (w:World):Prop:=
 ∀ (b:Frame) (k:List Item) (cs:List Frame),b.roundOf=r→∃ e a' w',Q e a' w'∧ArrivesIn (Machine.fenced P (Wr r)) P (lone (b.atR a (.code c::.inLoop c::k)) cs w) b k cs e a' w'
theorem wr_calm {r:Option Nat} {m:Machine}:m.fenced P (Wr r):=fenced_wide P m
theorem LoopW.wp {r:Option Nat} {c:Code} {Q:Exit→Act→World→Prop} {a:Act} (h:LoopW r P c Q a w):(Code.loop c).wpIn (Wr r) 0 P Q a w:=by
 intro b k cs hb _ _
 obtain ⟨e,a',w',hq,harr⟩:=h b k cs hb
 exact ⟨e,a',w',hq,.of_steps (.one wr_calm stepR_loop) harr⟩
theorem LoopW.round {r:Option Nat} {c:Code} {Q:Exit→Act→World→Prop} {a:Act} (h:c.wpIn (Wr r) 0 P (Exit.then (LoopW r P c Q) Q) a w):LoopW r P c Q a w:=by
 intro b k cs hb
 obtain ⟨e,a₁,w₁,hq,harr⟩:=h b (.inLoop c::k) cs hb trivial (room_wide _)
 cases e with
 | normal=>
  obtain ⟨e₂,a₂,w₂,hq₂,harr₂⟩:=hq b k cs hb
  exact ⟨e₂,a₂,w₂,hq₂,.of_steps (StepsIn.trans harr (.one wr_calm stepR_inLoop)) harr₂⟩
 | exit id=>exact ⟨_,a₁,w₁,hq,.pass (x:=.inLoop c) rfl (fun _ _=>.inl (by simp)) harr⟩
 | goto l=>exact ⟨_,a₁,w₁,hq,.pass (x:=.inLoop c) rfl (fun _ _=>.inl (by simp)) harr⟩
 | ret=>exact ⟨_,a₁,w₁,hq,.pass (x:=.inLoop c) rfl (fun _ _=>.inl (by simp)) harr⟩
 | panic ch=>exact ⟨_,a₁,w₁,hq,.pass (x:=.inLoop c) rfl (fun _ _=>.inl (by simp)) harr⟩
 | outgrown=>exact ⟨_,a₁,w₁,hq,.pass (x:=.inLoop c) rfl (fun _ _=>.inl (by simp)) harr⟩
theorem LoopW.mono {r:Option Nat} {c:Code} {Q Q':Exit→Act→World→Prop} {a:Act} (hq:∀ e a w,Q e a w→Q' e a w) (h:LoopW r P c Q a w):LoopW r P c Q' a w:=fun b k cs hb=>
 let ⟨e,a',w',q,r⟩:=h b k cs hb;⟨e,a',w',hq _ _ _ q,r⟩
theorem stepR_scope {b:Frame} {a:Act} {k:List Item} {cs:List Frame} {c:Code}:step P (lone (b.atR a (.code (.scope c)::k)) cs w)=.next (lone (b.atR a (.code c::.inScope c::k)) cs w):=
 step_lone_go (by simp [stepG,stepG.exec,Frame.atR])
theorem stepR_inScope {b:Frame} {a:Act} {k:List Item} {cs:List Frame} {c:Code}:step P (lone (b.atR a (.inScope c::k)) cs w)=.next (lone (b.atR a k) cs w):=
 step_lone_go (by simp [stepG,stepG.exec,Frame.atR])
theorem wpIn_scope_straight {r:Option Nat} {c:Code} {Q:Exit→Act→World→Prop} {a:Act} (h:c.wpIn (Wr r) 0 P (Exit.noGoto Q) a w):(Code.scope c).wpIn (Wr r) 0 P Q a w:=by
 intro b k cs hb h1 h2
 obtain ⟨e,a₁,w₁,hq,harr⟩:=h b (.inScope c::k) cs hb h1 h2
 have e1:∀ i,exitTo i (.inScope c::k)=exitTo i k:=fun i=>by simp [exitTo]
 cases e with
 | normal=>exact ⟨.normal,a₁,w₁,hq,.head wr_calm stepR_scope (StepsIn.trans harr (.one wr_calm stepR_inScope))⟩
 | exit id=>exact ⟨.exit id,a₁,w₁,hq,.of_steps (.one wr_calm stepR_scope) ⟨fun k' hk=>harr.1 k' (by rw [e1];exact hk),fun hr hk=>harr.2 hr (by rw [e1];exact hk)⟩⟩
 | goto l=>exact hq.elim
 | ret=>exact ⟨_,a₁,w₁,hq,.of_steps (.one wr_calm stepR_scope) harr⟩
 | panic ch=>exact ⟨_,a₁,w₁,hq,.of_steps (.one wr_calm stepR_scope) harr⟩
 | outgrown=>exact ⟨_,a₁,w₁,hq,.of_steps (.one wr_calm stepR_scope) harr⟩
def DenOk (P:Program) (z:R) (D:Nat→Nat→TSt→Ks R→Option R) (c:Code) (K0:Nat):Prop:=
 ∀ (m0:Nat) (n0:Nat×Nat) (ro:Option Nat) (k:Nat) (s:TSt) (ks:Ks R),D m0 k s ks=some z→(ro=none∨noRF c=true)→k≤K0→s.ok→m0≤s.N→
  ∀ {w:World} {F O:Nat→Prop} {μ:Nat→Nat} {ft:Nat→Nat→Prop} {a:Act},n0.2≤w.heap.size→NtB n0 s a→SR w F O μ (below s.N) s.st ft a→c.wpIn (Wr ro) 0 P (PostK ks z w F O μ m0 n0) a w
theorem below_alloc2 (w:World) (o1 o2:Obj):Gw w ((w.alloc o1).alloc o2) where
 os:=rfl
 tape:=rfl
 output:=rfl
 size:=by simp;omega
 same:=fun b hb=>by rw [Below.heap_alloc _ _ _ (by simp;omega),Below.heap_alloc _ _ _ hb]
theorem HR.more {H:Hp} (h:HR w F O μ K H ft) (hF:∀ b,F b→F' b) (hw:∀ b,F' b→b < w.heap.size) (hO:∀ b,O b→¬ F' b):HR w F' O μ K H ft where
 lt:=h.lt
 known:=h.known
 blk:=fun id b hb hl=>by
  obtain ⟨o,ho,hB⟩:=h.blk id b hb hl
  exact ⟨o,ho,hB.mono (fun _ _=>rfl) hF (fun _ _=>rfl) (fun _ h=>h) (fun _ _=>rfl) fun _ _ _=>rfl⟩
 self:=h.self
 own:=h.own
 dj:=h.dj
 nof:=hO
 wf:=hw
 owf:=h.owf
 pos:=h.pos.mono (Nat.le_refl _) hF fun _ _=>rfl
theorem range_ok {E:Env} {A:Ann} {z:R} {K0 m0:Nat} {n0:Nat×Nat} {D1 D2:Nat→Nat→TSt→Ks R→Option R} {x y:Code} {ps:List Nat} {g:Operand} {k:Nat} {s:TSt} {ks:Ks R} {fr:Option Frame'} {a:Act} (hI:∀ k,k≤K0→∀ c,c∈A.it k→IterOk E.P c)
  (ih1:DenOk E.P z D1 x K0) (ih2:DenOk E.P z D2 y K0) (h:rangeT E A m0 (noRF x&&noRF y) ps (fun m s ks=>D1 m k s ks) (fun m s ks=>D2 m k s ks) fr k s ks (s.val g)=some z)
  (hkk:k≤K0) (ho:s.ok) (hm:m0≤s.N) (hsz:n0.2≤w.heap.size) (hn:NtB n0 s a) (hs:SR w F O μ (below s.N) s.st ft a):
  (Code.rangeFunc g ⟨ps⟩ x y).wpIn (Wr none) 0 E.P (PostK ks z w F O μ m0 n0) a w:=by
 unfold rangeT at h
 split at h
 ·rename_i fi caps hg
  split at h
  ·rename_i f hok
   simp only [Bool.and_eq_true] at hok
   obtain ⟨⟨hx,hy⟩,hps⟩:=hok
   obtain ⟨c,ds,xv,xs,hc,hf,he,hcx,hL,h0⟩:=evIter_some h
   clear h
   split at h0
   ·rename_i hlen
    have hlen:=Nat.eq_of_beq_eq_true hlen
    subst hf
    obtain ⟨d,s',h1,h2,F1,O1,μ1,ft1,hh⟩:=handT_ok h0 ho hm hn hs
    obtain ⟨hcall,hiter⟩:=hI k hkk c hc
    have hgv:=opd_at hg hs
    simp only [TA.av,avL] at hgv
    obtain ⟨v0,us,hev,hv0,hus⟩:=hgv.fn_inv
    have hv0:=hv0.nil_inv
    subst hv0
    obtain ⟨cas,ca1,ca2⟩:=ext_closed he
    let rec0:Loop:={ state:=.ready,pending:=none,fn:=0,tmps:=a.tmps,params:=⟨ps⟩,assign:=x,body:=y,defers:=w.heap.size }
    let aM:Act:={ a with defers:=[isMark w.heap.size]++a.defers }
    refine wpIn_rangeFunc fun fn _=>?_
    let rec1:Loop:={ rec0 with fn:=fn }
    let W1:World:=(w.alloc (.deferred (some []))).alloc (.loop rec1)
    have gw:Gw w W1:=below_alloc2 w _ _
    have hW1:W1.heap.size=w.heap.size+2:=by simp [W1]
    have hrec:W1.heap[w.heap.size+1]?=some (.loop rec1):=by
     have:=World.alloc_heap_new (w.alloc (.deferred (some []))) (.loop rec1)
     simpa [W1] using this
    have hmark:W1.heap[w.heap.size]?=some (.deferred (some [])):=by
     have e:W1.heap[w.heap.size]?=(w.alloc (.deferred (some []))).heap[w.heap.size]?:=Below.heap_alloc _ _ _ (by simp)
     rw [e];exact World.alloc_heap_new w _
    have hdf:DfOk W1 F1 O1 aM.defers:=by
     refine ⟨List.nodup_cons.2 ⟨fun hmem=>?_,hh.sr.df.nd⟩,fun d' hd'=>?_⟩
     ·obtain ⟨b,e1,_,_,e4⟩:=hh.sr.df.all _ hmem
      have e:w.heap.size=b:=by simpa [isMark] using e1
      have:=(Array.getElem?_eq_some_iff.1 e4).1
      omega
     ·rcases List.mem_cons.1 hd' with e | e
      ·exact ⟨w.heap.size,e,fun h=>by have:=hh.sr.hr.owf _ h;omega,fun h=>by have:=hh.sr.hr.wf _ h;omega,hmark⟩
      ·obtain ⟨b,e1,e2,e3,e4⟩:=hh.sr.df.all _ e
       exact ⟨b,e1,e2,e3,by rw [gw.same b (Array.getElem?_eq_some_iff.1 e4).1];exact e4⟩
    have hmk:∀ b,isMark b∈aM.defers→b < W1.heap.size:=fun b hb=>by
     obtain ⟨b',e1,_,_,e4⟩:=hdf.all _ hb
     have e:b=b':=by simpa [isMark] using e1
     rw [e];exact (Array.getElem?_eq_some_iff.1 e4).1
    have hntM:∀ {s1:TSt},NtB n0 s1 a→NtB n0 s1 aM:=fun h=>⟨h.1,fun b hb=>by
     rcases List.mem_cons.1 hb with e | e
     ·have e:b=w.heap.size:=by simpa [isMark] using e
      omega
     ·exact h.2 b e⟩
    have hh1:Here w F O μ m0 n0 s' aM W1 F1 O1 μ1 ft1:=⟨hh.ok,hh.le,hntM hh.nt,⟨hh.sr.hr.gw gw,hh.sr.nt,fun t=>(hh.sr.tm t).step hh.sr.hr gw.fr fun _ h=>h,hdf⟩,hh.fr.trans gw.fr⟩
    let L:Nat:=w.heap.size+1
    let body:Tup c.tys→Fn' f.tys (Option R)→Fn' f.tys (Option R):=fun q=>roundT ps s.nt f m0 (fun m s ks=>D1 m k s ks) (fun m s ks=>D2 m k s ks) ks (tupDyn c.tys q)
    let done:Fn' f.tys (Option R):=takeT f s.nt ks.n
    let J:List (Tup c.tys)→World→(Nat→Prop)→(Nat→Prop)→Prop:=fun ys w' Fi Oi=>∃ (Fo Oo:Nat→Prop) (μo:Nat→Nat) (fto:Nat→Nat→Prop) (st:LoopState) (p:Option Code) (s'':TSt),
     w'.heap[L]?=some (.loop { rec1 with state:=st,pending:=p })∧Away w' Fo Oo L∧(∀ b,Fi b→Fo b)∧(∀ b,Oi b→W1.heap.size≤b∧Away w' Fo Oo b)∧Here w F O μ m0 n0 s'' aM w' Fo Oo μo fto∧
     ((st=.ready∧p=none∧∃ d,appT f.tys (iterL body done ys) d=some z∧instF s.nt f (tupDyn f.tys d)=some s'')∨
      (ys=[]∧st=.done∧∃ cj e,p=some cj∧((cj=.ret∧e=Exit.ret)∨∃ i,cj=.exit i∧e=Exit.exit i)∧(∀ (w':World) (F':Nat→Prop) (μ':Nat→Nat),ks.at z e s'' w' F' μ')))
    have hJ0:J xs W1 F1 (fun _=>False):=
     ⟨F1,O1,μ1,ft1,.ready,none,s',hrec,⟨by rw [hW1];omega,fun h=>by have:=hh.sr.hr.wf _ h;omega,fun h=>by have:=hh.sr.hr.owf _ h;omega⟩,fun _ h=>h,fun _ h=>h.elim,hh1,.inl ⟨rfl,rfl,d,h1,h2⟩⟩
    have hstab:Stab J:=by
     rintro ys w1 w2 Fi Oi Fi' Oi' μi μi' Ki ⟨Fo,Oo,μo,fto,st,p,s'',j1,j2,j3,j4,j5,j6⟩ wf1 wf2 hfr
     have hr:=j5.sr.hr
     have hL1:W1.heap.size≤w1.heap.size:=by have:=j2.1;rw [hW1];show w.heap.size+2≤_;have:w.heap.size+1 < w1.heap.size:=this;omega
     have noi:∀ b,Fo b∨Oo b→¬ Oi b:=fun b hb hi=>hb.elim (j4 b hi).2.2.1 (j4 b hi).2.2.2
     have lt1:∀ b,Fo b∨Oo b→b < w1.heap.size:=fun b hb=>hb.elim (hr.wf b) (hr.owf b)
     have kp:Kp w1 w2 Fo Oo:=⟨hfr.os,hfr.tape,hfr.output,hfr.size,fun b hb=>hfr.same b (lt1 b hb) (noi b hb),hfr.shape⟩
     have hLi:¬ Oi L:=fun h=>by have:=(j4 L h).1;rw [hW1] at this;have:w.heap.size+2≤w.heap.size+1:=this;omega
     have fo':∀ b,(Fo b∨Fi' b)→Fo b∨w1.heap.size≤b∨Oi b:=fun b hb=>hb.elim .inl fun h=>(hfr.fnew b h).elim (fun h=>.inl (j3 b h)) .inr
     have hOo:∀ b,Oo b→¬ (Fo b∨Fi' b):=fun b hb h=>by
      rcases fo' b h with h | h | h
      ·exact hr.nof b hb h
      ·have:=hr.owf b hb;omega
      ·exact noi b (.inr hb) h
     have hwf:∀ b,(Fo b∨Fi' b)→b < w2.heap.size:=fun b hb=>hb.elim (fun h=>Nat.lt_of_lt_of_le (hr.wf b h) hfr.size) (wf2.wf b)
     have hr2:HR w2 (fun b=>Fo b∨Fi' b) Oo μo (below s''.N) s''.st.H fto:=(hr.kp kp).more (fun b h=>.inl h) hwf hOo
     refine ⟨fun b=>Fo b∨Fi' b,Oo,μo,fto,st,p,s'',by rw [hfr.same L j2.1 hLi];exact j1,⟨Nat.lt_of_lt_of_le j2.1 hfr.size,fun h=>?_,j2.2.2⟩,fun b h=>.inr h,fun b hb=>?_,⟨j5.ok,j5.le,j5.nt,⟨hr2,j5.sr.nt,fun t=>?_,?_⟩,?_⟩,j6⟩
     ·rcases fo' L h with h | h | h
      ·exact j2.2.1 h
      ·have:=j2.1;omega
      ·exact hLi h
     ·have hb2:=wf2.owf b hb
      rcases hfr.onew b hb with h | h
      ·obtain ⟨m1,m2,m3,m4⟩:=j4 b h
       exact ⟨m1,hb2,fun h=>h.elim m3 (wf2.nof b hb),m4⟩
      ·exact ⟨Nat.le_trans hL1 h,hb2,fun h'=>h'.elim (fun h'=>by have:=hr.wf b h';omega) (wf2.nof b hb),fun h'=>by have:=hr.owf b h';omega⟩
     ·exact ((j5.sr.tm t).kp hr kp).mono (fun _ _=>rfl) (fun _ h=>.inl h) (fun _ _=>rfl) (fun _ h=>h) fun _ _=>rfl
     ·refine ⟨j5.sr.df.nd,fun d' hd'=>?_⟩
      obtain ⟨b,e1,e2,e3,e4⟩:=j5.sr.df.all d' hd'
      have hb1:b < w1.heap.size:=(Array.getElem?_eq_some_iff.1 e4).1
      have hbi:¬ Oi b:=fun h=>by have:=(j4 b h).1;have:=hmk b (e1▸hd');omega
      refine ⟨b,e1,e2,fun h=>?_,by rw [hfr.same b hb1 hbi];exact e4⟩
      rcases fo' b h with h | h | h
      ·exact e3 h
      ·omega
      ·exact hbi h
     ·have hlt:w.heap.size≤w1.heap.size:=by have:=hW1;omega
      refine { os:=hfr.os.trans j5.fr.os,tape:=hfr.tape.trans j5.fr.tape,output:=hfr.output.trans j5.fr.output,size:=Nat.le_trans j5.fr.size hfr.size,mu:=j5.fr.mu,froz:=fun b h=>.inl (j5.fr.froz b h),shape:=fun b hb=>(hfr.shape b (by omega)).trans (j5.fr.shape b hb),same:=fun b hb hn=>(hfr.same b (by omega) fun h=>by have:=(j4 b h).1;omega).trans (j5.fr.same b hb hn),onew:=j5.fr.onew,fnew:=fun b hb=>?_ }
      rcases fo' b hb with h | h | h
      ·exact j5.fr.fnew b h
      ·exact .inr (.inl (by omega))
      ·exact .inr (.inl (by have:=(j4 b h).1;omega))
    have hround:Rounds E.P L c.tys J:=by
     rintro q r w1 Fi Oi μi vs ⟨Fo,Oo,μo,fto,st,p,s'',j1,j2,j3,j4,j5,j6⟩ wf1 hvs
     rcases j6 with ⟨rfl,rfl,d,d1,d2⟩ | ⟨hnil,_⟩
     case inr=>cases hnil
     have hvl:vs.length=ps.length:=by rw [← hvs.1,List.length_map,tupDyn_length,hlen]
     refine ⟨fn,_,x,y,run_yield j1 (by simp [rec1,rec0,hvl]),?_⟩
     simp only [rec1,rec0]
     rw [zipfold]
     have hr:=j5.sr.hr
     have hsN:s''.nt=s.nt:=j5.nt.1.trans hn.1.symm
     have hargs:SR w1 Fo Oo μo (below (s''.args ps (tupDyn c.tys q)).N) (s''.args ps (tupDyn c.tys q)).st fto { tmps:=(ps.zip vs).foldl (fun tmps (t,v)=>tmps.setIfInBounds t v) a.tmps,defers:=[] }:=by
      refine ⟨hr,?_,fun t=>?_,DfOk.nil⟩
      ·show ((ps.zip vs).foldl (fun tmps (t,v)=>tmps.setIfInBounds t v) a.tmps).size=s''.nt
       rw [pfold_size];exact j5.sr.nt
      ·refine args_SR (nt:=s''.nt) (vs:=vs) ⟨by simpa using hvs.1,fun i hi=>?_⟩ j5.sr.nt (by rw [hsN];exact hps) j5.sr.tm t
       exact ((hvs.2 i hi).mono (fun _ _=>rfl) j3 (fun _ h=>h.elim) (fun _ h=>h.elim) fun _ h=>h.elim:VR w1 Fo μo _ _ _)
     have hargok:(s''.args ps (tupDyn c.tys q)).ok:=⟨look_args_wf j5.ok.tm ps,j5.ok.H⟩
     have hd:appT f.tys (body q (iterL body done r)) d=some z:=d1
     simp only [body,roundT] at hd
     rw [takeT_app d2] at hd
     have hL1:w.heap.size≤L:=by show w.heap.size≤w.heap.size+1;omega
     refine roundIn_of_wpIn trivial (Code.wpIn_mono ?_ (ih1 s''.N (s''.nt,0) (some L) k _ _ hd (.inr hx) hkk hargok (Nat.le_refl _) (Nat.zero_le _) ⟨rfl,fun _ _=>Nat.zero_le _⟩ hargs))
     rintro e a1 w2 ⟨s1,F2,O2,μ2,ft2,k2,hk⟩
     cases e with
     | normal=>
      simp only [Ks.at] at hk
      have l2:=j2.step k2.fr
      have hrec2:w2.heap[L]?=some (.loop { rec1 with state:=.ready,pending:=none }):=by rw [j2.same k2.fr];exact j1
      obtain ⟨ra,hrec3⟩:=recAt_put (r':={ rec1 with state:=.busy,pending:=none }) hrec2
      refine ⟨_,run_beginRound hrec2 rfl,?_⟩
      have kp3:=ra.kp l2.2.1 l2.2.2
      have hsr3:SR (w2.putObj L (.loop { rec1 with state:=.busy,pending:=none })) F2 O2 μ2 (below s1.N) s1.st ft2 a1:=⟨k2.sr.hr.kp kp3,k2.sr.nt,fun t=>(k2.sr.tm t).kp k2.sr.hr kp3,ra.df k2.sr.df⟩
      have l3:=l2.rec_ ra
      refine Code.wpIn_mono ?_ (ih2 s''.N (s''.nt,0) (some L) k s1 _ hk (.inr hy) hkk k2.ok k2.le (Nat.zero_le _) k2.nt hsr3)
      rintro e a2 w4 ⟨s2,F4,O4,μ4,ft4,k4,hk4⟩
      have l4:=l3.step k4.fr
      have hrec4:w4.heap[L]?=some (.loop { rec1 with state:=.busy,pending:=none }):=by rw [l3.same k4.fr];exact hrec3
      have fin:∀ (jump:Option Code) (r':Loop),r'={ rec1 with state:=(if jump.isNone then .ready else .done),pending:=jump }→∃ w5,(Instr.endRound L jump).run E.P w4=.ok (.bool jump.isNone) w5∧w5.heap[L]?=some (.loop r')∧Kp w1 w5 Fi Oi∧Away w5 F4 O4 L∧(∀ b,Fi b→F4 b)∧
        (∀ b,Oi b→W1.heap.size≤b∧Away w5 F4 O4 b)∧(s''.back s2).ok∧Here w F O μ m0 n0 (s''.back s2) aM w5 F4 O4 μ4 ft4:=by
       rintro jump r' rfl
       obtain ⟨rb,hrec5⟩:=recAt_put (r':={ rec1 with state:=(if jump.isNone then .ready else .done),pending:=jump }) hrec4
       have l5:=l4.rec_ rb
       have kp5:=rb.kp l4.2.1 l4.2.2
       have vst:∀ {xx vv},VR w1 Fo μo (below s''.N) xx vv→VR (w4.putObj L (.loop { rec1 with state:=(if jump.isNone then .ready else .done),pending:=jump })) F4 μ4 (below s2.N) xx vv:=fun {xx vv} hv=>by
        have v2:=hv.step hr k2.fr fun id (h:id < s''.N)=>(Nat.lt_of_lt_of_le h k2.le:id < s1.N)
        have v2':VR w2 F2 μ2 (below s''.N) xx vv:=hv.step hr k2.fr fun _ h=>h
        have v3:=v2'.mono (w':=w2.putObj L (.loop { rec1 with state:=.busy,pending:=none })) (F':=F2) (μ':=μ2) (fun b hb=>kp3.keep b (.inl hb)) (fun _ h=>h) (fun _ _=>rfl) (fun _ h=>h) fun id hid=>kp3.shape _ (k2.sr.hr.lt id (Nat.lt_of_lt_of_le hid k2.le))
        have v4:=v3.mono (w':=w4) (F':=F4) (μ':=μ4) (K':=below s2.N) (fun b hb=>k4.fr.frozen hsr3.hr b hb) k4.fr.froz (fun id hid=>k4.fr.mu id hid) (fun id (h:id < s''.N)=>Nat.lt_of_lt_of_le h k4.le) fun id hid=>k4.fr.shape _ (hsr3.hr.lt id (Nat.lt_of_lt_of_le hid k2.le))
        exact v4.kp k4.sr.hr kp5
       have dfr:DfOk w1 Fo Oo aM.defers:=j5.sr.df
       have df5:=rb.df ((ra.df (dfr.step k2.fr)).step k4.fr)
       have hsr5:SR (w4.putObj L (.loop { rec1 with state:=(if jump.isNone then .ready else .done),pending:=jump })) F4 O4 μ4 (below s2.N) s2.st ft4 a2:=⟨k4.sr.hr.kp kp5,k4.sr.nt,fun t=>(k4.sr.tm t).kp k4.sr.hr kp5,rb.df k4.sr.df⟩
       obtain ⟨bk1,bk2⟩:=back_SR (a:=aM) j5.ok k4.ok j5.sr hsr5 vst df5
       have pin:∀ id,id < m0→id < s''.N:=fun id h=>Nat.lt_of_lt_of_le h j5.le
       have away:∀ b,Oi b→Away w4 F4 O4 b:=fun b hb=>(((j4 b hb).2.step k2.fr).rec_ ra).step k4.fr
       have ne:∀ b,Fi b∨Oi b→b≠L:=fun b hb e=>by
        subst e
        exact hb.elim (fun h=>j2.2.1 (j3 _ h)) fun h=>by
         have h1:=(j4 _ h).1
         rw [hW1] at h1
         have:w.heap.size+2≤w.heap.size+1:=h1
         omega
       refine ⟨_,run_endRound jump hrec4,hrec5,?_,l5,fun b hb=>k4.fr.froz b (k2.fr.froz b (j3 b hb)),fun b hb=>⟨(j4 b hb).1,(away b hb).rec_ rb⟩,bk1,⟨bk1,Nat.le_trans j5.le k4.le,⟨j5.nt.1,j5.nt.2⟩,bk2,?_⟩⟩
       ·have lt1:∀ b,Fi b∨Oi b→b < w1.heap.size:=fun b hb=>hb.elim (wf1.wf b) (wf1.owf b)
        have same2:∀ b,Fi b∨Oi b→w2.heap[b]?=w1.heap[b]?:=fun b hb=>hb.elim (fun h=>k2.fr.frozen hr b (j3 b h)) fun h=>(j4 b h).2.same k2.fr
        refine ⟨rb.os.trans (k4.fr.os.trans (ra.os.trans k2.fr.os)),rb.tape.trans (k4.fr.tape.trans (ra.tape.trans k2.fr.tape)),rb.output.trans (k4.fr.output.trans (ra.output.trans k2.fr.output)),?_,fun b hb=>?_,fun b hb=>?_⟩
        ·rw [rb.size];exact Nat.le_trans k2.fr.size (Nat.le_trans (Nat.le_of_eq ra.size.symm) k4.fr.size)
        ·rw [rb.same b (ne b hb)]
         have e4:w4.heap[b]?=(w2.putObj L (.loop { rec1 with state:=.busy,pending:=none })).heap[b]?:=hb.elim (fun h=>k4.fr.frozen hsr3.hr b (k2.fr.froz b (j3 b h))) fun h=>(((j4 b h).2.step k2.fr).rec_ ra).same k4.fr
         rw [e4,ra.same b (ne b hb),same2 b hb]
        ·rw [rb.shape b]
         have hb3:b < (w2.putObj L (.loop { rec1 with state:=.busy,pending:=none })).heap.size:=by rw [ra.size];exact Nat.lt_of_lt_of_le hb k2.fr.size
         rw [k4.fr.shape b hb3,ra.shape b,k2.fr.shape b hb]
       ·exact ((((j5.fr.trans (k2.fr.pin pin)).rec_ ra hL1).trans (k4.fr.pin pin)).rec_ rb hL1)
      cases e with
      | normal=>
       simp only [Ks.at] at hk4
       obtain ⟨w5,e1,e2,e3,e4,e5,e6,e7,e8⟩:=fin none _ rfl
       refine ⟨_,w5,e1,true,rfl,e3,?_⟩
       obtain ⟨d',s3,g1,g2,F6,O6,μ6,ft6,g3⟩:=handT_ok hk4 e7 e8.le e8.nt e8.sr
       refine ⟨F6,O6,μ6,ft6,.ready,none,s3,by simpa using e2,e4.step g3.fr,fun b hb=>g3.fr.froz b (e5 b hb),fun b hb=>⟨(e6 b hb).1,(e6 b hb).2.step g3.fr⟩,⟨g3.ok,g3.le,g3.nt,g3.sr,e8.fr.trans g3.fr⟩,.inl ⟨rfl,rfl,d',g1,?_⟩⟩
       rw [← hsN];exact g2
      | ret=>
       simp only [Ks.at] at hk4
       obtain ⟨w5,e1,e2,e3,e4,e5,e6,e7,e8⟩:=fin (some .ret) _ rfl
       exact ⟨_,w5,e1,false,rfl,e3,F4,O4,μ4,ft4,.done,some .ret,s''.back s2,by simpa using e2,e4,e5,e6,e8,.inr ⟨rfl,rfl,.ret,.ret,rfl,.inl ⟨rfl,rfl⟩,fun _ _ _=>hk4⟩⟩
      | exit i=>
       simp only [Ks.at] at hk4
       obtain ⟨w5,e1,e2,e3,e4,e5,e6,e7,e8⟩:=fin (some (.exit i)) _ rfl
       exact ⟨_,w5,e1,false,rfl,e3,F4,O4,μ4,ft4,.done,some (.exit i),s''.back s2,by simpa using e2,e4,e5,e6,e8,.inr ⟨rfl,rfl,.exit i,.exit i,rfl,.inr ⟨i,rfl,rfl⟩,fun _ _ _=>hk4⟩⟩
      | goto i=>exact hk4.elim
      | panic l=>obtain ⟨_,_,_,h,_⟩:=hk4;cases h
      | outgrown=>exact hk4.elim
     | ret=>cases hk
     | exit i=>cases hk
     | goto i=>exact hk.elim
     | panic l=>obtain ⟨_,_,_,h,_⟩:=hk;cases h
     | outgrown=>exact hk.elim
    have hrun:=hiter xv xs hL cas (by rw [castTup_some hcx];exact ca1) W1 F1 μ us ?_ hh1.sr.hr.wf hh1.sr.hr.pos L J hstab hround hJ0
    ·refine ⟨L,[isMark w.heap.size],W1,⟨.fn (.func c.f) ⟨us⟩,#[]++#[.func (.yield L) #[] #[]]⟩,W1,c.f,⟨.func (.yield L) ⟨[]⟩ ⟨[]⟩::us⟩,W1,run_enterLoop_outer _ _ _ _ _,?_,fun _ _=>trivial,?_,(fun h=>by cases h),CallsIn.mono hrun ?_⟩
     ·simp [resolve,hev,Deferred.ofValue]
      rfl
     ·have:=hcall ⟨.func (.yield L) ⟨[]⟩ ⟨[]⟩::us⟩ W1
      simp only [invoke]
      simpa using this
     ·rintro e w' ⟨v,F',O',rfl,Fo,Oo,μo,fto,st,p,s'',j1,j2,j3,j4,j5,j6⟩
      have hL1:w.heap.size≤L:=by show w.heap.size≤w.heap.size+1;omega
      rcases j6 with ⟨rfl,rfl,d,d1,d2⟩ | ⟨_,rfl,cj,e,rfl,hce,hat⟩
      ·refine ⟨none,_,run_endLoop j1 (by simp),?_⟩
       obtain ⟨ra,_⟩:=recAt_put (r':={ rec1 with state:=.exhausted,pending:=none }) j1
       have hd:appT f.tys (takeT f s.nt ks.n) d=some z:=d1
       rw [takeT_app d2] at hd
       exact ⟨s'',Fo,Oo,μo,fto,j5.rec_ ra hL1 j2.2.1 j2.2.2,hd⟩
      ·refine ⟨some cj,_,run_endLoop j1 (by simp),?_⟩
       obtain ⟨ra,_⟩:=recAt_put (r':={ rec1 with state:=.exhausted,pending:=some cj }) j1
       have hhe:=j5.rec_ ra hL1 j2.2.1 j2.2.2
       rcases hce with ⟨rfl,rfl⟩ | ⟨i,rfl,rfl⟩
       ·exact wpIn_ret ⟨s'',Fo,Oo,μo,fto,hhe,hat _ _ _⟩
       ·exact wpIn_exit ⟨s'',Fo,Oo,μo,fto,hhe,hat _ _ _⟩
    ·have hfr:Fr w F O μ (below m0) W1 F1 O1 μ1:=hh.fr.trans gw.fr
     have hcl:=ca2 hus
     exact ⟨hcl.1,fun i hi=>(hcl.2 i hi).mono (fun b hb=>hfr.frozen hs.hr b hb) hfr.froz (fun _ h=>h.elim) (fun _ h=>h) fun _ h=>h.elim⟩
   ·cases h0
  ·cases h
 ·cases h
theorem den_ok {E:Env} {cts:Nat→List CT} {A:Ann} {z:R} {K0:Nat} (hE:∀ k,k≤K0→EnvOk E (cts k)) (hI:∀ k,k≤K0→∀ c,c∈A.it k→IterOk E.P c) (hmix:E.P.follows .mixedOrders=true):∀ (c:Code),DenOk E.P z (fun m k s ks=>den E cts A m c k s ks) c K0:=by
 intro c
 induction c with
 | skip=>
  intro m0 n0 ro k s ks h hrf hkk ho hm w F O μ ft a hsz hn hs
  exact wpIn_skip ⟨s,F,O,μ,ft,.refl ho hm hn hs,h⟩
 | label l=>
  intro m0 n0 ro k s ks h hrf hkk ho hm w F O μ ft a hsz hn hs
  exact wpIn_label ⟨s,F,O,μ,ft,.refl ho hm hn hs,h⟩
 | exit id=>
  intro m0 n0 ro k s ks h hrf hkk ho hm w F O μ ft a hsz hn hs
  exact wpIn_exit ⟨s,F,O,μ,ft,.refl ho hm hn hs,h⟩
 | ret=>
  intro m0 n0 ro k s ks h hrf hkk ho hm w F O μ ft a hsz hn hs
  exact wpIn_ret ⟨s,F,O,μ,ft,.refl ho hm hn hs,h⟩
 | goto l=>intro m0 n0 ro k s ks h;simp [den] at h
 | refuse l=>intro m0 n0 ro k s ks h;simp [den] at h
 | rangeFunc g ps x y ih1 ih2=>
  intro m0 n0 ro k s ks h hrf hkk ho hm w F O μ ft a hsz hn hs
  obtain ⟨ps⟩:=ps
  have hro:ro=none:=hrf.resolve_right (by simp [noRF])
  subst hro
  simp only [den] at h
  exact range_ok hI ih1 ih2 h hkk ho hm hsz hn hs
 | region id ops draw=>
  intro m0 n0 ro k s ks h hrf hkk ho hm w F O μ ft a hsz hn hs
  obtain ⟨ops⟩:=ops
  cases draw with
  | false=>
   simp only [den] at h
   refine wpIn_region_list (evSeq_ok (hE k hkk) h ho hm hn hs (fun s' a' w' F' O' μ' ft' h1 h2=>⟨s',F',O',μ',ft',h2,h1⟩) fun v u s' a' w' F' O' μ' ft' h1 hw h2 h3=>⟨s',F',O',μ',ft',h3,u,v,rfl,h1,hw,h2⟩)
  | true=>
   simp only [den] at h
   split at h
   ·unfold drawT at h
    split at h
    ·split at h
     ·exact evDrawE_ok (hE k hkk) hmix h ho hm hn hs fun s' a' w' F' O' μ' ft' h1 h2=>⟨s',F',O',μ',ft',h2,h1⟩
     ·cases h
    ·exact evDraw_ok (hE k hkk) hmix h ho hm hn hs fun s' a' w' F' O' μ' ft' h1 h2=>⟨s',F',O',μ',ft',h2,h1⟩
   ·cases h
 | seq x y ihx ihy=>
  intro m0 n0 ro k s ks h hrf hkk ho hm w F O μ ft a hsz hn hs
  have hrf1:noRF (.seq x y)=true→noRF x=true:=fun h=>by simp only [noRF,Bool.and_eq_true] at h;exact h.1
  have hrf2:noRF (.seq x y)=true→noRF y=true:=fun h=>by simp only [noRF,Bool.and_eq_true] at h;exact h.2
  simp only [den] at h
  refine wpIn_seq ?_
  split at h
  ·rename_i f hf
   simp only [share] at h
   refine Code.wpIn_mono ?_ (ihx m0 n0 ro k s _ h (hrf.imp id hrf1) hkk ho hm hsz hn hs)
   rintro e a' w' ⟨s',F',O',μ',ft',hh,hk⟩
   cases e with
   | normal=>
    obtain ⟨x,s2,h1,h2,F2,O2,μ2,ft2,h3⟩:=handT_ok (w:=w') (F:=F') (O:=O') (μ:=μ') (ft:=ft') (a:=a') hk hh.ok hh.le hh.nt hh.sr
    have h2':instF s.nt f (tupDyn f.tys x)=some s2:=by rw [hn.1,← hh.nt.1];exact h2
    rw [takeT_app h2'] at h1
    exact Code.wpIn_mono (PostK.trans (hh.fr.trans h3.fr)) (ihy m0 n0 ro k s2 ks h1 (hrf.imp id hrf2) hkk h3.ok h3.le (Nat.le_trans hsz hh.fr.size) h3.nt h3.sr)
   | _=>exact ⟨s',F',O',μ',ft',hh,hk⟩
  ·refine Code.wpIn_mono ?_ (ihx m0 n0 ro k s _ h (hrf.imp id hrf1) hkk ho hm hsz hn hs)
   rintro e a' w' ⟨s',F',O',μ',ft',hh,hk⟩
   cases e with
   | normal=>exact Code.wpIn_mono (PostK.trans hh.fr) (ihy m0 n0 ro k s' ks hk (hrf.imp id hrf2) hkk hh.ok hh.le (Nat.le_trans hsz hh.fr.size) hh.nt hh.sr)
   | _=>exact ⟨s',F',O',μ',ft',hh,hk⟩
 | cond c x y ihx ihy=>
  intro m0 n0 ro k s ks h hrf hkk ho hm w F O μ ft a hsz hn hs
  have hrf1:noRF (.cond c x y)=true→noRF x=true:=fun h=>by simp only [noRF,Bool.and_eq_true] at h;exact h.1
  have hrf2:noRF (.cond c x y)=true→noRF y=true:=fun h=>by simp only [noRF,Bool.and_eq_true] at h;exact h.2
  simp only [den] at h
  split at h
  ·rename_i b hb
   have hv:=opd_at hb hs
   simp only [TA.av,dav] at hv
   cases b with
   | true=>exact wpIn_cond_true hv.bool_inv (ihx m0 n0 ro k s ks h (hrf.imp id hrf1) hkk ho hm hsz hn hs)
   | false=>exact wpIn_cond_false hv.bool_inv (ihy m0 n0 ro k s ks h (hrf.imp id hrf2) hkk ho hm hsz hn hs)
  ·cases h
 | block id c ih=>
  intro m0 n0 ro k s ks h hrf hkk ho hm w F O μ ft a hsz hn hs
  simp only [den] at h
  refine wpIn_block (Code.wpIn_mono ?_ (ih m0 n0 ro k s _ h hrf hkk ho hm hsz hn hs))
  rintro e a' w' ⟨s',F',O',μ',ft',hh,hk⟩
  cases e with
  | exit id'=>
   simp only [Ks.at] at hk
   simp only [Exit.inBlock]
   split
   ·rename_i e
    subst e
    rw [Nat.beq_refl] at hk
    exact ⟨s',F',O',μ',ft',hh,hk⟩
   ·rename_i e
    rw [nbeq_ne e] at hk
    exact ⟨s',F',O',μ',ft',hh,hk⟩
  | _=>exact ⟨s',F',O',μ',ft',hh,hk⟩
 | scope c ih=>
  intro m0 n0 ro k s ks h hrf hkk ho hm w F O μ ft a hsz hn hs
  simp only [den] at h
  refine wpIn_scope_straight (Code.wpIn_mono ?_ (ih m0 n0 ro k s _ h hrf hkk ho hm hsz hn hs))
  rintro e a' w' ⟨s',F',O',μ',ft',hh,hk⟩
  cases e with
  | goto l=>exact hk.elim
  | _=>exact ⟨s',F',O',μ',ft',hh,hk⟩
 | loop c ih=>
  intro m0 n0 ro k s ks h hrf hkk ho hm w F O μ ft a hsz hn hs
  simp only [den] at h
  split at h
  ·rename_i f hf
   have key:∀ (k:Nat),k≤K0→∀ (x:Tup f.tys) (s':TSt),appT f.tys (iter k fun k' rec=>takeT f s.nt fun s'=>den E cts A m0 c k' s' { ks with n:=handT f m0 rec }) x=some z→instF s.nt f (tupDyn f.tys x)=some s'→s'.ok→m0≤s'.N→
     ∀ {w:World} {F O:Nat→Prop} {μ:Nat→Nat} {ft:Nat→Nat→Prop} {a:Act},n0.2≤w.heap.size→NtB n0 s' a→SR w F O μ (below s'.N) s'.st ft a→LoopW ro E.P c (PostK ks z w F O μ m0 n0) a w:=by
    intro k
    induction k with
    | zero=>
     intro _ x s' h1
     simp only [iter] at h1
     rw [appT_curT] at h1
     cases h1
    | succ k ihk=>
     intro hkk x s' h1 h2 ho' hm' w F O μ ft a hsz' hn' hs'
     simp only [iter] at h1
     rw [takeT_app h2] at h1
     refine LoopW.round (Code.wpIn_mono ?_ (ih m0 n0 ro k s' _ h1 hrf (by omega) ho' hm' hsz' hn' hs'))
     rintro e a' w' ⟨s2,F',O',μ',ft',hh,hk⟩
     cases e with
     | normal=>
      obtain ⟨x',s3,k1,k2,F2,O2,μ2,ft2,k3⟩:=handT_ok (w:=w') (F:=F') (O:=O') (μ:=μ') (ft:=ft') (a:=a') hk hh.ok hh.le hh.nt hh.sr
      have k2':instF s.nt f (tupDyn f.tys x')=some s3:=by rw [hn.1,← hh.nt.1];exact k2
      exact LoopW.mono (PostK.trans (hh.fr.trans k3.fr)) (ihk (by omega) x' s3 k1 k2' k3.ok k3.le (Nat.le_trans hsz' hh.fr.size) k3.nt k3.sr)
     | _=>exact ⟨s2,F',O',μ',ft',hh,hk⟩
   obtain ⟨x,s',h1,h2,F',O',μ',ft',h3⟩:=handT_ok h ho hm hn hs
   exact (LoopW.mono (PostK.trans h3.fr) (key k hkk x s' h1 h2 h3.ok h3.le hsz h3.nt h3.sr)).wp
  ·cases h
end Go.Proofs.Ytljfmaaadnoggaa.Abs
