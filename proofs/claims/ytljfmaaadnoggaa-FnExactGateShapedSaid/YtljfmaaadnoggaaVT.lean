/- A region in the text's order. No condition. -/
import Derived.Test.YtljfmaaadnoggaaVS
import Derived.TacticsIn
import Derived.OrdersIn
namespace Go.Proofs.Ytljfmaaadnoggaa.Abs
open Go Go.RowKit
variable {w w' w'':World} {F F' F'' O O' O'':Nat→Prop} {μ μ' μ'':Nat→Nat} {K K' K'':Nat→Prop} {ft ft':Nat→Nat→Prop} {P:Program} {R:Type}
def Wr (r:Option Nat):Fence:={ Fence.wide with round:=r }
theorem Wr_none:Wr none=Fence.wide:=rfl
theorem stepsIn_Wr {r:Option Nat} {m m':Machine}:StepsIn (Machine.fenced P (Wr r)) P m m'↔Steps P m m':=stepsIn_wide
theorem room_Wr {r:Option Nat} (n:Nat):(Wr r).room n:=room_wide n
theorem callsIn_Wr {r:Option Nat} {n:Nat} {f:FuncId} {args:Array Value} {R:Ending→World→Prop} (h:Calls P f args w R):CallsIn (Wr r) n P f args w R:=
 ⟨trivial,fun cs _=>(callsIn_wide (n:=n).2 h).2 cs (room_wide _)⟩
theorem rowsIn_Wr {r:Option Nat} {n:Nat} {row:String} {args:Array Value} {R:Value→World→Prop} (h:Rows P row args w R):RowsIn (Wr r) n P row args w R:=
 fun c cs _=>let ⟨v,w',q,s⟩:=h c cs;⟨v,w',q,stepsIn_wide.2 s⟩
theorem op_in {r:Option Nat} {o:Oper} {a:Act} {K:Act→World→Prop} {Q:Exit→Act→World→Prop} (hd:∀ c,o.op≠.defer c) (h:o.wp P a w K Q):o.wpIn (Wr r) 0 P a w K Q:=by
 refine ⟨fun f _=>trivial,?_⟩
 rw [Oper.semAt_eq _ _ _ hd]
 unfold Oper.wp at h
 generalize (execOp a.eval o).run P w=x at h
 have no:(Wr r).depth.isSome=true→1≤0:=fun h=>by cases h
 cases x with
 | ok x w'=>
  cases x<;>simp only [Oper.upon,Oper.uponIn] at h ⊢ <;>
   first
    | exact h
    | exact ⟨no,callsIn_Wr h⟩
    | exact ⟨no,rowsIn_Wr h⟩
    | exact h.elim
 | halt x w'=>cases x<;>simp only [Oper.upon,Oper.uponIn] at h ⊢<;>exact h
mutual
def TA.frz (i:Nat) (x:Dyn):TA→TA
 | .ow id=>match Nat.beq id i with
  | true=>.d x
  | false=>.ow id
 | .agg cs=>.agg (frzL i x cs)
 | .tup cs=>.tup (frzL i x cs)
 | .ifc t a=>.ifc t (a.frz i x)
 | .fn f xs ys=>.fn f (frzL i x xs) (frzL i x ys)
 | a=>a
def frzL (i:Nat) (x:Dyn):List TA→List TA
 | []=>[]
 | a::r=>a.frz i x::frzL i x r
end
def TBlk.frz (i:Nat) (x:Dyn):TBlk→TBlk
 | .box l=>.box (frzL i x l)
 | b=>b
def frz1 (s:TSt) (i:Nat):TSt:=match lookH s.H i with
 | some (.row t _ xs)=>⟨s.nt,s.N,s.tm.map fun p=>(p.1,p.2.frz i ⟨.sl t,xs⟩),updH (s.H.map fun p=>(p.1,p.2.frz i ⟨.sl t,xs⟩)) [(i,none)]⟩
 | _=>s
def frzs (s:TSt):List Nat→TSt
 | []=>s
 | i::r=>frzs (frz1 s i) r
theorem frzL_map (i:Nat) (x:Dyn):∀ l:List TA,frzL i x l=l.map (TA.frz i x)
 | []=>by simp [frzL]
 | a::r=>by simp [frzL,frzL_map i x r]
theorem look_frz (i:Nat) (x:Dyn) (t:Nat):∀ l:List (Nat×TA),look (l.map fun p=>(p.1,p.2.frz i x)) t=(look l t).frz i x
 | []=>by simp only [List.map_nil,look,TA.frz]
 | p::r=>by
  simp only [List.map_cons,look]
  cases Nat.beq t p.1 with
  | true=>rfl
  | false=>exact look_frz i x t r
theorem lookH_frz (i:Nat) (x:Dyn) (t:Nat):∀ l:List (Nat×TBlk),lookH (l.map fun p=>(p.1,p.2.frz i x)) t=(lookH l t).map (TBlk.frz i x)
 | []=>rfl
 | p::r=>by
  simp only [List.map_cons,lookH]
  cases Nat.beq t p.1 with
  | true=>rfl
  | false=>exact lookH_frz i x t r
theorem shp_frz (i:Nat) (x:Dyn) (b:Option TBlk):shp (b.map (TBlk.frz i x))=shp b:=by
 cases b with
 | none=>rfl
 | some b=>cases b<;>rfl
mutual
theorem frz_vr {H H':List (Nat×TBlk)} {i:Nat} {t:Ty} {v:RV} {xs:List t.dn} (hi:lookH H i=some (.row t v xs)) (hsh:∀ id,shp (lookH H' id)=shp (lookH H id)) (hF:∀ b,F b→F' b)
  (hz:∀ u,VR w F μ K (rowAV v.b i xs.length (tsz t)) u→VR w F' μ K (dav ⟨.sl t,xs⟩) u):∀ (a:TA) {u:Value},VR w F μ K (a.av H) u→VR w F' μ K ((a.frz i ⟨.sl t,xs⟩).av H') u
 | .ow id,u,h=>by
  simp only [TA.frz]
  cases e:Nat.beq id i with
  | true=>
   have:=Nat.eq_of_beq_eq_true e
   subst this
   simp only [TA.av,hi,shp] at h
   simp only [TA.av]
   exact hz u h
  | false=>
   simp only [TA.av,hsh id]
   simp only [TA.av] at h
   exact h.mono (fun _ _=>rfl) hF (fun _ _=>rfl) (fun _ h=>h) fun _ _=>rfl
 | .agg cs,u,h=>by
  simp only [TA.av] at h
  simp only [TA.frz,TA.av]
  obtain ⟨vs,rfl,hvs⟩:=h.agg_inv
  exact .mkAgg (frzL_vr hi hsh hF hz cs hvs)
 | .tup cs,u,h=>by
  simp only [TA.av] at h
  simp only [TA.frz,TA.av]
  obtain ⟨vs,rfl,hvs⟩:=h.tup_inv
  exact .mkTup (frzL_vr hi hsh hF hz cs hvs)
 | .ifc q a,u,h=>by
  simp only [TA.av] at h
  simp only [TA.frz,TA.av]
  obtain ⟨v',rfl,hv⟩:=h.ifc_inv
  exact .ifc _ _ _ (frz_vr hi hsh hF hz a hv)
 | .fn f as bs,u,h=>by
  simp only [TA.av] at h
  simp only [TA.frz,TA.av]
  obtain ⟨vs,us,rfl,h1,h2⟩:=h.fn_inv
  exact .mkFn (frzL_vr hi hsh hF hz as h1) (frzL_vr hi hsh hF hz bs h2)
 | .top,u,h=>by simp only [TA.frz,TA.av];exact .top _
 | .lit q,u,h=>by simp only [TA.frz,TA.av] at h ⊢;exact h.mono (fun _ _=>rfl) hF (fun _ _=>rfl) (fun _ h=>h) fun _ _=>rfl
 | .d q,u,h=>by simp only [TA.frz,TA.av] at h ⊢;exact h.mono (fun _ _=>rfl) hF (fun _ _=>rfl) (fun _ h=>h) fun _ _=>rfl
 | .nils,u,h=>by simp only [TA.frz,TA.av] at h ⊢;exact h.mono (fun _ _=>rfl) hF (fun _ _=>rfl) (fun _ h=>h) fun _ _=>rfl
 | .fp q y off,u,h=>by simp only [TA.frz,TA.av] at h ⊢;exact h.mono (fun _ _=>rfl) hF (fun _ _=>rfl) (fun _ h=>h) fun _ _=>rfl
 | .bs id n e,u,h=>by simp only [TA.frz,TA.av] at h ⊢;exact h.mono (fun _ _=>rfl) hF (fun _ _=>rfl) (fun _ h=>h) fun _ _=>rfl
 | .bp id off,u,h=>by simp only [TA.frz,TA.av] at h ⊢;exact h.mono (fun _ _=>rfl) hF (fun _ _=>rfl) (fun _ h=>h) fun _ _=>rfl
 | .mp id,u,h=>by simp only [TA.frz,TA.av] at h ⊢;exact h.mono (fun _ _=>rfl) hF (fun _ _=>rfl) (fun _ h=>h) fun _ _=>rfl
 | .rp id q off,u,h=>by
  simp only [TA.frz,TA.av,hsh id] at h ⊢
  exact h.mono (fun _ _=>rfl) hF (fun _ _=>rfl) (fun _ h=>h) fun _ _=>rfl
theorem frzL_vr {H H':List (Nat×TBlk)} {i:Nat} {t:Ty} {v:RV} {xs:List t.dn} (hi:lookH H i=some (.row t v xs)) (hsh:∀ id,shp (lookH H' id)=shp (lookH H id)) (hF:∀ b,F b→F' b)
  (hz:∀ u,VR w F μ K (rowAV v.b i xs.length (tsz t)) u→VR w F' μ K (dav ⟨.sl t,xs⟩) u):∀ (l:List TA) {us:List Value},VRs w F μ K (avL H l) us→VRs w F' μ K (avL H' (frzL i ⟨.sl t,xs⟩ l)) us
 | [],us,h=>by
  simp only [avL] at h
  simp only [frzL,avL]
  rw [h.nil_inv];exact .nil
 | a::r,us,h=>by
  simp only [avL] at h
  simp only [frzL,avL]
  obtain ⟨u,q,rfl,h1,h2⟩:=h.cons_inv
  exact .cons (frz_vr hi hsh hF hz a h1) (frzL_vr hi hsh hF hz r h2)
end
mutual
theorem frz_wf {H H':List (Nat×TBlk)} {N i:Nat} {x:Dyn} (hsh:∀ id,shp (lookH H' id)=shp (lookH H id)):∀ (a:TA),a.wf H N→(a.frz i x).wf H' N
 | .ow id,h=>by
  simp only [TA.frz]
  cases Nat.beq id i with
  | true=>simp only [TA.wf]
  | false=>simp only [TA.wf] at h ⊢;exact h
 | .agg cs,h=>by simp only [TA.frz,TA.wf] at h ⊢;exact frzL_wf hsh cs h
 | .tup cs,h=>by simp only [TA.frz,TA.wf] at h ⊢;exact frzL_wf hsh cs h
 | .ifc q a,h=>by simp only [TA.frz,TA.wf] at h ⊢;exact frz_wf hsh a h
 | .fn f as bs,h=>by simp only [TA.frz,TA.wf] at h ⊢;exact ⟨frzL_wf hsh as h.1,frzL_wf hsh bs h.2⟩
 | .rp id q off,h=>by simp only [TA.frz,TA.wf,hsh id] at h ⊢;exact h
 | .top,h=>by simp only [TA.frz,TA.wf]
 | .lit q,h=>by simp only [TA.frz,TA.wf]
 | .d q,h=>by simp only [TA.frz,TA.wf]
 | .nils,h=>by simp only [TA.frz,TA.wf]
 | .fp q y off,h=>by simp only [TA.frz,TA.wf]
 | .bs id n e,h=>by simp only [TA.frz,TA.wf]
 | .bp id off,h=>by simp only [TA.frz,TA.wf]
 | .mp id,h=>by simp only [TA.frz,TA.wf]
theorem frzL_wf {H H':List (Nat×TBlk)} {N i:Nat} {x:Dyn} (hsh:∀ id,shp (lookH H' id)=shp (lookH H id)):∀ (l:List TA),wfL H N l→wfL H' N (frzL i x l)
 | [],h=>by simp only [frzL,wfL]
 | a::r,h=>by simp only [frzL,wfL] at h ⊢;exact ⟨frz_wf hsh a h.1,frzL_wf hsh r h.2⟩
end
theorem lies_frz {H H':List (Nat×TBlk)} {i:Nat} {x:Dyn} (b:TBlk):((b.frz i x).blk H').lies=(b.blk H).lies:=by
 cases b with
 | hrow t v xs i' os=>simp only [TBlk.frz,TBlk.blk];cases v.b<;>rfl
 | row t v xs=>rfl
 | _=>rfl
theorem frz1_ok {s:TSt} {a:Act} (i:Nat) (ho:s.ok) (hs:SR w F O μ (below s.N) s.st ft a):(frz1 s i).ok∧(frz1 s i).N=s.N∧(frz1 s i).nt=s.nt∧
  ∃ F' O',SR w F' O' μ (below (frz1 s i).N) (frz1 s i).st ft a∧Fr w F O μ (below s.N) w F' O' μ:=by
 unfold frz1
 split
 ·rename_i t v xs hi
  let F':Nat→Prop:=fun b=>F b∨(s.st.H.live i∧ft i b)
  let O':Nat→Prop:=fun b=>O b∧¬ (s.st.H.live i∧ft i b)
  generalize hH':updH (s.H.map fun p=>(p.1,p.2.frz i ⟨.sl t,xs⟩)) [(i,none)]=H'
  have hl:∀ id,id≠i→lookH H' id=(lookH s.H id).map (TBlk.frz i ⟨.sl t,xs⟩):=fun id hid=>by
   rw [← hH']
   simp only [updH,lookH,nbeq_ne hid,lookH_frz]
  have hli:∃ x,lookH H' i=some (.hid x):=by
   rw [← hH']
   simp only [updH,lookH,Nat.beq_refl]
   exact ⟨_,rfl⟩
  have hsh:∀ id,shp (lookH H' id)=shp (lookH s.H id):=fun id=>by
   by_cases e:id=i
   ·subst e
    rw [← hH']
    simp only [updH,lookH,Nat.beq_refl,lookH_frz]
    exact shp_frz _ _ _
   ·rw [hl id e,shp_frz]
  have hF:∀ b,F b→F' b:=fun b h=>.inl h
  have hz:∀ u,VR w F μ (below s.N) (rowAV v.b i xs.length (tsz t)) u→VR w F' μ (below s.N) (dav ⟨.sl t,xs⟩) u:=fun u hu=>freeze_ok hs hi hu hF (fun hlv b hb=>.inr ⟨hlv,hb⟩)
  refine ⟨⟨fun q=>?_,fun id l hl2=>?_⟩,rfl,rfl,F',O',⟨?_,hs.nt,fun q=>?_,hs.df.sub (fun b hb=>hb.1) fun b hb=>hb.imp id fun ⟨h1,h2⟩=>hs.hr.own i h1 b h2⟩,⟨rfl,rfl,rfl,Nat.le_refl _,fun _ _=>rfl,hF,fun _ _=>rfl,fun _ _ _=>rfl,fun b hb=>.inl hb.1,fun b hb=>?_⟩⟩
  ·show (look (s.tm.map fun p=>(p.1,p.2.frz i ⟨.sl t,xs⟩)) q).wf H' s.N
   rw [look_frz]
   exact frz_wf hsh _ (ho.tm q)
  ·have hl2:lookH H' id=some l:=hl2
   by_cases e:id=i
   ·obtain ⟨x,hx⟩:=hli
    rw [e,hx] at hl2;cases hl2;simp only [TBlk.refs,wfL]
   ·rw [hl id e] at hl2
    cases hb:lookH s.H id with
    | none=>rw [hb] at hl2;cases hl2
    | some b=>
     rw [hb] at hl2
     simp only [Option.map_some,Option.some.injEq] at hl2
     subst hl2
     have hw:=ho.H id b hb
     cases b with
     | box l0=>exact frzL_wf hsh l0 hw
     | hrow t' v' xs' i' os=>exact (avL_sub (fun id' _=>hsh id') (Nat.le_refl _) _ hw).2
     | _=>simp only [TBlk.frz,TBlk.refs,wfL]
  ·have hr:=hs.hr
   have lv:∀ id,Hp.live (hpT H') id→id≠i∧s.st.H.live id:=by
    rintro id ⟨b',hb',hlb⟩
    obtain ⟨c,hc,hv,rfl⟩:=hpT_some hb'
    have hne:id≠i:=fun e=>by
     obtain ⟨x,hx⟩:=hli
     rw [e,hx] at hc;cases hc;cases hv
    rw [hl id hne] at hc
    cases hb:lookH s.H id with
    | none=>rw [hb] at hc;cases hc
    | some b=>
     rw [hb] at hc
     simp only [Option.map_some,Option.some.injEq] at hc
     subst hc
     refine ⟨hne,_,st_at hb (by cases b<;>first | rfl | (cases hv)),?_⟩
     rw [lies_frz] at hlb;exact hlb
   show HR w F' O' μ (below s.N) (hpT H') ft
   refine { lt:=hr.lt,known:=fun id b' hb'=>?_,blk:=fun id b' hb' hlb=>?_,self:=fun id h=>hr.self id (lv id h).2,own:=fun id h x hx=>⟨hr.own id (lv id h).2 x hx,fun ⟨h1,h2⟩=>(lv id h).1 (hr.dj id i (lv id h).2 h1 x hx h2)⟩,dj:=fun id id' h h'=>hr.dj id id' (lv id h).2 (lv id' h').2,nof:=fun b hb hf=>?_,wf:=fun b hb=>?_,owf:=fun b hb=>hr.owf b hb.1,pos:=hr.pos.mono (Nat.le_refl _) (fun _ h=>.inl h) fun _ _=>rfl }
   ·obtain ⟨c,hc,hv,rfl⟩:=hpT_some hb'
    have hne:id≠i:=fun e=>by
     obtain ⟨x,hx⟩:=hli
     rw [e,hx] at hc;cases hc;cases hv
    rw [hl id hne] at hc
    cases hb:lookH s.H id with
    | none=>rw [hb] at hc;cases hc
    | some b=>
     rw [hb] at hc
     simp only [Option.map_some,Option.some.injEq] at hc
     subst hc
     exact hr.known id _ (st_at hb (by cases b<;>first | rfl | (cases hv)))
   ·obtain ⟨c,hc,hv,rfl⟩:=hpT_some hb'
    have hne:id≠i:=fun e=>by
     obtain ⟨x,hx⟩:=hli
     rw [e,hx] at hc;cases hc;cases hv
    rw [hl id hne] at hc
    cases hb:lookH s.H id with
    | none=>rw [hb] at hc;cases hc
    | some b=>
     rw [hb] at hc
     simp only [Option.map_some,Option.some.injEq] at hc
     subst hc
     obtain ⟨o,ho1,hB⟩:=hr.blk id _ (st_at hb (by cases b<;>first | rfl | (cases hv))) (by rw [lies_frz] at hlb;exact hlb)
     refine ⟨o,ho1,?_⟩
     have up:∀ {B:Blk},BlkR w F μ (below s.N) (ft id) (μ id) o B→BlkR w F' μ (below s.N) (ft id) (μ id) o B:=fun hB=>hB.mono (fun _ _=>rfl) hF (fun _ _=>rfl) (fun _ h=>h) (fun _ _=>rfl) (fun _ _ _=>rfl)
     cases b with
     | box l0=>
      obtain ⟨cs,q,m1,m2,m3,m4⟩:=hB
      refine ⟨cs,q,m1,m2,?_,fun k hk=>?_⟩
      ·rw [avL_length] at m3 ⊢;rw [frzL_map];simpa using m3
      ·rw [avL_length,frzL_map,List.length_map] at hk
       have m5:=m4 k (by rw [avL_length];exact hk)
       rw [avL_getD _ _ _ hk] at m5
       rw [avL_getD _ _ _ (by rw [frzL_map];simpa using hk),frzL_map]
       have e5:(l0.map (TA.frz i ⟨.sl t,xs⟩)).getD k .top=(l0.getD k .top).frz i ⟨.sl t,xs⟩:=by simp [List.getD,hk]
       rw [e5]
       exact frz_vr hi hsh hF hz _ m5
     | row t' v' xs'=>exact up hB
     | hrow t' v' xs' i' os=>
      have e6:(TBlk.hrow t' v' xs' i' os).blk H'=(TBlk.hrow t' v' xs' i' os).blk s.H:=blk_sub (N:=s.N) (fun id' _=>hsh id') (ho.H id _ hb)
      rw [show TBlk.frz i ⟨.sl t,xs⟩ (TBlk.hrow t' v' xs' i' os)=TBlk.hrow t' v' xs' i' os from rfl,e6]
      exact up hB
     | hid x=>cases hv
     | dmap i' l'=>exact up hB
     | fmap t' l'=>exact up hB
   ·rcases hf with h | h
    ·exact hr.nof b hb.1 h
    ·exact hb.2 h
   ·rcases hb with h | ⟨h1,h2⟩
    ·exact hr.wf b h
    ·exact hr.owf b (hr.own i h1 b h2)
  ·show VR w F' μ _ ((look (s.tm.map fun p=>(p.1,p.2.frz i ⟨.sl t,xs⟩)) q).av H') _
   rw [look_frz]
   exact frz_vr hi hsh hF hz _ (hs.tm q)
  ·rcases hb with h | ⟨h1,h2⟩
   ·exact .inl h
   ·exact .inr (.inr (hs.hr.own i h1 b h2))
 ·exact ⟨ho,rfl,rfl,F,O,hs,Fr.refl _ _ _ _ _⟩
theorem frzs_ok {a:Act}:∀ (L:List Nat) {s:TSt} {F O:Nat→Prop},s.ok→SR w F O μ (below s.N) s.st ft a→(frzs s L).ok∧(frzs s L).N=s.N∧(frzs s L).nt=s.nt∧
  ∃ F' O',SR w F' O' μ (below (frzs s L).N) (frzs s L).st ft a∧Fr w F O μ (below s.N) w F' O' μ
 | [],s,F,O,ho,hs=>⟨ho,rfl,rfl,F,O,hs,Fr.refl _ _ _ _ _⟩
 | i::r,s,F,O,ho,hs=>by
  obtain ⟨h1,h2,h3,F1,O1,h4,h5⟩:=frz1_ok i ho hs
  obtain ⟨k1,k2,k3,F2,O2,k4,k5⟩:=frzs_ok r h1 h4
  exact ⟨k1,k2.trans h2,k3.trans h3,F2,O2,k4,h5.trans (by rw [← h2];exact k5)⟩
def owIds:TA→List Nat
 | .ow id=>[id]
 | .agg cs=>cs.flatMap fun a=>match a with
  | .ow id=>[id]
  | _=>[]
 | _=>[]
def preC:List CT→FuncId→TSt→List TA→List Nat
 | [],_,_,_=>[]
 | c::r,f,s,as=>match Nat.beq c.f f&&fits c s as with
  | true=>match c.outs.all fun a=>a.res.flat&&a.bps.all Bp.flat with
   | true=>[]
   | false=>match extL s.H c.args as ⟨[],[]⟩ with
    | some (e1,_)=>match extBs s.H c.bps 0 e1 with
     | some (e2,_)=>e2.fz
     | none=>[]
    | none=>[]
  | false=>preC r f s as
def preT (E:Env) (cts:List CT) (o:Oper) (s:TSt):List Nat:=match o.op with
 | .call ⟨.value x,⟨args⟩,_⟩=>match s.val x with
  | .fn (.func f) first cap=>preC (ctsFor E o.dst cts) f s ((first++args.map s.val)++cap)
  | _=>[]
 | .call ⟨.invoke x name,⟨args⟩,_⟩=>match s.val x with
  | .ifc t b=>match methOf E.mt t name with
   | some f=>preC (ctsFor E o.dst cts) f s (b::args.map s.val)
   | none=>[]
  | _=>[]
 | .store _ x y=>match s.val x with
  | .rp _ _ _=>match rpD s.H (s.val x) with
   | true=>[]
   | false=>owIds (s.val y)
  | _=>[]
 | .buildSlice t _ ⟨ps⟩=>match dpOf E o.dst with
  | true=>[]
  | false=>match rowTy E t with
   | some _=>ps.flatMap fun p=>owIds (s.val p.2)
   | none=>[]
 | .box _ x=>match o.dst with
  | some d=>match memN E.fz d with
   | true=>owIds (s.val x)
   | false=>[]
  | none=>[]
 | .slice _ x _ _ _=>owIds (s.val x)
 | _=>[]
def isHrow (H:List (Nat×TBlk)) (id:Nat):Bool:=match lookH H id with
 | some (.hrow _ _ _ _ _)=>true
 | _=>false
def rpH (H:List (Nat×TBlk)):TA→List Nat
 | .rp id _ _=>match isHrow H id with
  | true=>[id]
  | false=>[]
 | _=>[]
def preH (o:Oper) (s:TSt):List Nat:=match o.op with
 | .load _ x=>rpH s.H (s.val x)
 | .store _ x _=>rpH s.H (s.val x)
 | .call ⟨_,⟨args⟩,_⟩=>args.flatMap fun x=>(owIds (s.val x)).filter (isHrow s.H)
 | _=>[]
def TSt.know (s:TSt) (t:Nat) (b:Bool):TSt:={ s with tm:=(t,.d ⟨.bool,b⟩)::s.tm }
theorem know_ok {s:TSt} {t:Nat} {b:Bool} (ho:s.ok):(s.know t b).ok:=by
 refine ⟨fun u=>?_,ho.H⟩
 simp only [TSt.know,look]
 cases e:Nat.beq u t with
 | true=>simp only [TA.wf]
 | false=>exact ho.tm u
theorem know_SR {s:TSt} {t:Nat} {b:Bool} {a:Act} (hs:SR w F O μ K s.st ft a) (h:look s.tm t=.d ⟨.bool,b⟩):SR w F O μ K (s.know t b).st ft a:=by
 refine ⟨hs.hr,hs.nt,fun u=>?_,hs.df⟩
 have:=hs.tm u
 simp only [TSt.st,TSt.know,look] at this ⊢
 cases e:Nat.beq u t with
 | true=>rw [Nat.eq_of_beq_eq_true e,h] at this;rw [Nat.eq_of_beq_eq_true e];exact this
 | false=>exact this
theorem wantT_look {ops:Array Oper} {s:TSt} {o:Oper} {t:Nat} {b c:Bool} (h:wantT ops s o=some (.on t b c)):look s.tm t=.d ⟨.bool,b⟩:=by
 unfold wantT at h
 split at h
 ·cases h
 ·split at h
  ·split at h
   ·rename_i b' hb
    cases h
    exact hb
   ·cases h
   ·cases h
  ·cases h
def evOne (E:Env) (cts:List CT) (o:Oper) (s:TSt) (b:Bool) (κ:TSt→Option R) (κp:TA→TSt→Option R):Option R:=
 match b with
 | true=>match frzs (shuts s (preH o s)) (preT E cts o (shuts s (preH o s))) with
  | ⟨nt,N,tm,H⟩=>evT E cts o ⟨nt,N,tm,H⟩ (fun r=>κ ((TSt.next ⟨nt,N,tm,H⟩ r).put o.dst r.v)) (fun r=>κp r.v (TSt.next ⟨nt,N,tm,H⟩ r))
 | false=>κ (s.put o.dst (.lit undef))
def evSeq (E:Env) (cts:List CT) (ops:Array Oper):List Oper→TSt→(TSt→Option R)→(TA→TSt→Option R)→Option R
 | [],s,κ,_=>κ s
 | o::rest,s,κ,κp=>match okDst s o.dst with
  | true=>match wantT ops s o with
   | some .yes=>evOne E cts o s true (fun s=>evSeq E cts ops rest s κ κp) κp
   | some .no=>evOne E cts o s false (fun s=>evSeq E cts ops rest s κ κp) κp
   | some (.on t b c)=>cond b (evOne E cts o (s.know t true) c (fun s=>evSeq E cts ops rest s κ κp) κp) (evOne E cts o (s.know t false) (!c) (fun s=>evSeq E cts ops rest s κ κp) κp)
   | none=>none
  | false=>none
def NtB (n0:Nat×Nat) (s:TSt) (a:Act):Prop:=s.nt=n0.1∧∀ b,isMark b∈a.defers→n0.2≤b
theorem NtB.put {n0:Nat×Nat} {s s':TSt} {a:Act} {d d':Option Nat} {v:TA} {u:Value} (h:NtB n0 s a) (e:s'.nt=s.nt):NtB n0 (s'.put d v) (a.put d' u):=by
 cases d<;>cases d'<;>exact ⟨e.trans h.1,h.2⟩
theorem NtB.to {n0:Nat×Nat} {s s':TSt} {a:Act} (h:NtB n0 s a) (e:s'.nt=s.nt):NtB n0 s' a:=⟨e.trans h.1,h.2⟩
structure Here (w:World) (F O:Nat→Prop) (μ:Nat→Nat) (m0:Nat) (n0:Nat×Nat) (s':TSt) (a':Act) (w':World) (F' O':Nat→Prop) (μ':Nat→Nat) (ft':Nat→Nat→Prop):Prop where
 ok:s'.ok
 le:m0≤s'.N
 nt:NtB n0 s' a'
 sr:SR w' F' O' μ' (below s'.N) s'.st ft' a'
 fr:Fr w F O μ (below m0) w' F' O' μ'
theorem Here.trans {m0:Nat} {n0:Nat×Nat} {s':TSt} {a':Act} (hf:Fr w F O μ (below m0) w' F' O' μ') (h:Here w' F' O' μ' m0 n0 s' a' w'' F'' O'' μ'' ft'):Here w F O μ m0 n0 s' a' w'' F'' O'' μ'' ft':=
 ⟨h.ok,h.le,h.nt,h.sr,hf.trans h.fr⟩
theorem Here.refl {m0:Nat} {n0:Nat×Nat} {s:TSt} {a:Act} (ho:s.ok) (hm:m0≤s.N) (hn:NtB n0 s a) (hs:SR w F O μ (below s.N) s.st ft a):Here w F O μ m0 n0 s a w F O μ ft:=⟨ho,hm,hn,hs,Fr.refl _ _ _ _ _⟩
theorem evT_nd {E:Env} {cts:List CT} {o:Oper} {s:TSt} {κ κp:TRes→Option R} {z:R} (h:evT E cts o s κ κp=some z):∀ c,o.op≠.defer c:=fun c hc=>by
 simp [evT,ev0,hc] at h
theorem evOne1_ok {E:Env} {cts:List CT} {o:Oper} {s:TSt} {κ:TSt→Option R} {κp:TA→TSt→Option R} {z:R} {m0:Nat} {n0:Nat×Nat} {a:Act} {Kn:Act→World→Prop} {Q:Exit→Act→World→Prop} (hE:EnvOk E cts)
  (h:evT E cts o s (fun r=>κ ((s.next r).put o.dst r.v)) (fun r=>κp r.v (s.next r))=some z) (hd:okDst s o.dst=true) (ho:s.ok) (hm:m0≤s.N) (hn:NtB n0 s a) (hs:SR w F O μ (below s.N) s.st ft a)
  (hk:∀ s' a' w' F' O' μ' ft',κ s'=some z→Here w F O μ m0 n0 s' a' w' F' O' μ' ft'→Kn a' w')
  (hp:∀ v u s' a' w' F' O' μ' ft',κp v s'=some z→v.wf s'.H s'.N→VR w' F' μ' (below s'.N) (v.av s'.H) u→Here w F O μ m0 n0 s' a' w' F' O' μ' ft'→Q (.panic [{ v:=u,recovered:=false }]) a' w'):o.wp E.P a w Kn Q:=by
 rcases evT_ok hE ho h with ⟨r,h1,h2,h3⟩ | ⟨r,h1,h2,h3⟩
 ·refine tok_run h1 hs fun v w' F' O' μ' ft' k1 k2 k3=>?_
  have hs':=next_SR hs ho h2 k2 k3
  have ho':=next_ok ho h2
  have hN:((s.next r).put o.dst r.v).N=s.N+r.k:=by cases o.dst<;>rfl
  have hd':okDst (s.next r) o.dst=true:=by cases hdst:o.dst<;>rw [hdst] at hd<;>exact hd
  exact hk _ _ w' F' O' μ' ft' h3 ⟨put_ok ho' h2.v,by rw [hN];omega,hn.put rfl,by rw [hN];exact put_SR hs' hd' k1,k3.pin fun id (hid:id < m0)=>(show id < s.N by omega)⟩
 ·refine tpan_run h1 hs fun v w' F' O' μ' ft' k1 k2 k3=>?_
  have hs':=next_SR hs ho h2 k2 k3
  have ho':=next_ok ho h2
  exact hp r.v v (s.next r) a w' F' O' μ' ft' h3 h2.v k1 ⟨ho',by show m0≤s.N+r.k;omega,hn.to rfl,hs',k3.pin fun id (hid:id < m0)=>(show id < s.N by omega)⟩
theorem evOne_ok {E:Env} {cts:List CT} {o:Oper} {s:TSt} {b:Bool} {κ:TSt→Option R} {κp:TA→TSt→Option R} {z:R} {m0:Nat} {n0:Nat×Nat} {a:Act} {ops:Array Oper} {ro:Option Nat} {Kn:Act→World→Prop} {Q:Exit→Act→World→Prop} (hE:EnvOk E cts) (h:evOne E cts o s b κ κp=some z)
  (hd:okDst s o.dst=true) (hw:Region.wanted o (yielded ops a.tmps)=b) (ho:s.ok) (hm:m0≤s.N) (hn:NtB n0 s a) (hs:SR w F O μ (below s.N) s.st ft a)
  (hk:∀ s' a' w' F' O' μ' ft',κ s'=some z→Here w F O μ m0 n0 s' a' w' F' O' μ' ft'→Kn a' w')
  (hp:∀ v u s' a' w' F' O' μ' ft',κp v s'=some z→v.wf s'.H s'.N→VR w' F' μ' (below s'.N) (v.av s'.H) u→Here w F O μ m0 n0 s' a' w' F' O' μ' ft'→Q (.panic [{ v:=u,recovered:=false }]) a' w'):
  if Region.wanted o (yielded ops a.tmps) then o.wpIn (Wr ro) 0 E.P a w Kn Q else (∀ f,o.about E.P w a.eval=some f→(Wr ro).fn f)∧Kn (a.put o.dst undef) w:=by
 cases b with
 | false=>
  rw [hw]
  simp only [evOne] at h
  simp only [Bool.false_eq_true,if_false]
  have hN:(s.put o.dst (.lit undef)).N=s.N:=by cases o.dst<;>rfl
  refine ⟨fun _ _=>trivial,?_⟩
  exact hk _ _ w F O μ ft h ⟨put_ok ho (by simp only [TA.wf]),by rw [hN];exact hm,hn.put rfl,by rw [hN];exact put_SR hs hd (by simp only [TA.av];exact .lit _),Fr.refl _ _ _ _ _⟩
 | true=>
  rw [hw]
  obtain ⟨y1,y2,y3,_,ft1,y4⟩:=shuts_ok (preH o s) ho hs
  have h:evT E cts o (frzs (shuts s (preH o s)) (preT E cts o (shuts s (preH o s)))) (fun r=>κ ((TSt.next (frzs (shuts s (preH o s)) (preT E cts o (shuts s (preH o s)))) r).put o.dst r.v)) (fun r=>κp r.v (TSt.next (frzs (shuts s (preH o s)) (preT E cts o (shuts s (preH o s)))) r))=some z:=h
  generalize shuts s (preH o s)=s0 at h y1 y2 y3 y4
  rw [← y2] at y4
  obtain ⟨z1,z2,z3,F1,O1,z4,z5⟩:=frzs_ok (preT E cts o s0) y1 y4
  rw [y2] at z2 z5
  rw [y3] at z3
  have hd:okDst (frzs s0 (preT E cts o s0)) o.dst=true:=by
   cases hdst:o.dst with
   | none=>rfl
   | some t=>rw [hdst] at hd;simp only [okDst,z3] at hd ⊢;exact hd
  have hm':m0≤(frzs s0 (preT E cts o s0)).N:=by rw [z2];exact hm
  simp only [if_true]
  have z5':=z5.pin (K':=below m0) fun id (hid:id < m0)=>(show id < s.N by omega)
  exact op_in (evT_nd h) (evOne1_ok hE h hd z1 hm' (hn.to z3) z4 (fun s' a' w' F' O' μ' ft' k1 k2=>hk s' a' w' F' O' μ' ft' k1 (k2.trans z5')) fun v u s' a' w' F' O' μ' ft' k0 k1 k2 k3=>hp v u s' a' w' F' O' μ' ft' k0 k1 k2 (k3.trans z5'))
theorem evSeq_ok {E:Env} {cts:List CT} {ops:Array Oper} {κ:TSt→Option R} {κp:TA→TSt→Option R} {z:R} {m0:Nat} {n0:Nat×Nat} {ro:Option Nat} {Q:Exit→Act→World→Prop} (hE:EnvOk E cts):∀ {l:List Oper} {s:TSt} {w:World} {F O:Nat→Prop} {μ:Nat→Nat} {ft:Nat→Nat→Prop} {a:Act},
  evSeq E cts ops l s κ κp=some z→s.ok→m0≤s.N→NtB n0 s a→SR w F O μ (below s.N) s.st ft a→
  (∀ s' a' w' F' O' μ' ft',κ s'=some z→Here w F O μ m0 n0 s' a' w' F' O' μ' ft'→Q .normal a' w')→
  (∀ v u s' a' w' F' O' μ' ft',κp v s'=some z→v.wf s'.H s'.N→VR w' F' μ' (below s'.N) (v.av s'.H) u→Here w F O μ m0 n0 s' a' w' F' O' μ' ft'→Q (.panic [{ v:=u,recovered:=false }]) a' w')→wpListIn (Wr ro) 0 E.P ops Q l a w
 | [],s,w,F,O,μ,ft,a,h,ho,hm,hn,hs,hk,hp=>by
  simp only [evSeq] at h
  exact hk s a w F O μ ft h (.refl ho hm hn hs)
 | o::rest,s,w,F,O,μ,ft,a,h,ho,hm,hn,hs,hk,hp=>by
  simp only [evSeq] at h
  have go:∀ (s0:TSt) (b:Bool),evOne E cts o s0 b (fun s=>evSeq E cts ops rest s κ κp) κp=some z→okDst s0 o.dst=true→s0.ok→m0≤s0.N→NtB n0 s0 a→SR w F O μ (below s0.N) s0.st ft a→Region.wanted o (yielded ops a.tmps)=b→wpListIn (Wr ro) 0 E.P ops Q (o::rest) a w:=by
   intro s0 b h0 hd0 ho0 hm0 hn0 hs0 hw0
   exact evOne_ok (ops:=ops) hE h0 hd0 hw0 ho0 hm0 hn0 hs0 (fun s' a' w' F' O' μ' ft' hκ hh=>evSeq_ok hE hκ hh.ok hh.le hh.nt hh.sr
    (fun s2 a2 w2 F2 O2 μ2 ft2 k1 k2=>hk s2 a2 w2 F2 O2 μ2 ft2 k1 (k2.trans hh.fr))
    (fun v u s2 a2 w2 F2 O2 μ2 ft2 k1 kw k2 k3=>hp v u s2 a2 w2 F2 O2 μ2 ft2 k1 kw k2 (k3.trans hh.fr))) hp
  split at h
  ·rename_i hd
   split at h
   ·rename_i hw
    exact go s true h hd ho hm hn hs (wantT_ok hs hw)
   ·rename_i hw
    exact go s false h hd ho hm hn hs (wantT_ok hs hw)
   ·rename_i t b c hw
    have hl:=wantT_look hw
    have hw':=wantT_ok hs hw
    simp only at hw'
    cases b with
    | true=>
     refine go _ c h hd (know_ok ho) hm (hn.to rfl) (know_SR hs hl) ?_
     rw [hw'];cases c<;>rfl
    | false=>
     refine go _ (!c) h hd (know_ok ho) hm (hn.to rfl) (know_SR hs hl) ?_
     rw [hw'];cases c<;>rfl
   ·cases h
  ·cases h
end Go.Proofs.Ytljfmaaadnoggaa.Abs
